/- Letters written as words: the contracts on both sides. -/
import Derived.Test.YtmhffnbneaggiaaBls
import Derived.Test.YtmhffnbneaggiaaWof
namespace Go.Proofs.Ytmhffnbneaggiaa
set_option linter.unusedSimpArgs false
set_option linter.unusedVariables false
open Go.RowKit

/-- The bytes of a word of a list. -/
def wby (ws : List ByteArray) (n : Nat) : List UInt8 := (ws[n]?.getD ⟨#[]⟩).data.toList
theorem wby_eq (ws : List ByteArray) (n : Nat) : ws[n]?.getD ⟨#[]⟩ = ⟨(wby ws n).toArray⟩ := by unfold wby; simp
/-- The first k letters written. -/
def encL (ws : List ByteArray) (ls : List Int) : Nat → List UInt8
  | 0 => []
  | k + 1 => encL ws ls k ++ wby ws (ls[k]?.getD 0).toNat
def capB (l : List UInt8) : ByteArray × Bool := (if l.length ≤ 512 then ⟨l.toArray⟩ else ⟨#[]⟩, decide (l.length ≤ 512))
theorem capB_yes {l : List UInt8} (h : l.length ≤ 512) : capB l = (⟨l.toArray⟩, true) := by simp [capB, h]
theorem capB_no {l : List UInt8} (h : ¬ l.length ≤ 512) : capB l = (⟨#[]⟩, false) := by simp [capB, h]
def encOk (n : Nat) (ls : List Int) : Bool := decide (ls.length ≤ 512) && ls.all (fun x => inB x 0 ((n : Int) - 1))
def encT (xs ls : List Int) : ByteArray × Bool := if encOk xs.length ls then capB (encL (wordsL xs) ls ls.length) else (⟨#[]⟩, false)
def out_EncodeLetters (xs ls : List Int) : ByteArray × Bool := if validC xs then encT xs ls else (⟨#[]⟩, false)
theorem wset_size {xs : List Int} (h : xs.all (fun n => inB n 1 32) = true) (k : Nat) (hk : k ≤ xs.length) : ∀ s ∈ wset xs (cord xs) k, s.size ≤ 32 := by
  induction k with
  | zero => intro s hs; rw [wset, List.mem_replicate] at hs; rw [hs.2]; exact Nat.zero_le _
  | succ k ih =>
    intro s hs
    rcases List.mem_or_eq_of_mem_set hs with h1 | h1
    · exact ih (by omega) s h1
    · rw [h1]
      have := lenAt_bd h k (by omega)
      show (digs _ _).toArray.size ≤ 32
      rw [List.size_toArray, digs_length]
      omega
theorem wby_len {xs : List Int} (h : xs.all (fun n => inB n 1 32) = true) (n : Nat) : (wby (wordsL xs) n).length ≤ 32 := by
  unfold wby
  by_cases hn : n < (wordsL xs).length
  · rw [List.getElem?_eq_getElem hn]
    exact wset_size h xs.length (Nat.le_refl _) _ (List.getElem_mem hn)
  · rw [List.getElem?_eq_none (by omega)]; exact Nat.zero_le _
theorem encL_bd {xs ls : List Int} (h : xs.all (fun n => inB n 1 32) = true) (k : Nat) : (encL (wordsL xs) ls k).length ≤ 32 * k := by
  induction k with
  | zero => exact Nat.le_refl _
  | succ k ih => have := wby_len h (ls[k]?.getD 0).toNat; rw [encL, List.length_append]; omega
theorem asB_any (l : List UInt8) (w : World) (h : l.length ≤ 1048576) : Calls Try.prog 67 #[.string ⟨l.toArray⟩] w fun e w' => e = .returned (.tuple #[.string (capB l).1, .bool (capB l).2]) ∧ w = w' := by
  by_cases h5 : l.length ≤ 512
  · rw [capB_yes h5]
    have h6 : ¬ (512 : Int) < (l.length : Int) := by omega
    go_enter Try.func67, Try.ntmps67
    go_wp2
    go_ret2
    exact ⟨rfl, rfl⟩
  · rw [capB_no h5]
    have h6 : (512 : Int) < (l.length : Int) := by omega
    go_enter Try.func67, Try.ntmps67
    go_wp2
    go_ret2
    exact ⟨rfl, rfl⟩

set_option maxHeartbeats 4000000 in
theorem impl_EncodeLetters (w : World) (v : Value) (xs : List Int) (hv : SlR w v (xs.map (Value.int .i64))) (_ : ∀ x ∈ xs, I64 x) (_ : xs.length ≤ 1048576) (u : Value) (ls : List Int) (hu : SlR w u (ls.map (Value.int .i64))) (_ : ∀ x ∈ ls, I64 x) (_ : ls.length ≤ 1048576) :
    Calls Try.prog 25 #[.agg #[v], u] w fun e w' => e = .returned (.tuple #[.string (out_EncodeLetters xs ls).1, .bool (out_EncodeLetters xs ls).2]) ∧ Below w.heap.size w w' := by
  obtain ⟨res, hres⟩ : ∃ res, res = out_EncodeLetters xs ls := ⟨_, rfl⟩
  rw [← hres]
  have hb0 : Below w.heap.size w (w.alloc (.cells #[v] 24)) := by go_grown
  have hv1 := hv.below hb0
  have hu1 := hu.below hb0
  have hc : (w.alloc (.cells #[v] 24)).cell? ⟨w.heap.size, 0, none⟩ = some v := by simp
  have HB := Lib.hid hb0
  have HC := Lib.hid hc
  clear hb0 hc
  obtain ⟨la, ln, lc, rfl, hlnl, hlnc, hlcm, hlcell⟩ := SlR.opened 0 hu
  obtain ⟨xa, xn, xc, rfl, hxnl, hxnc, hxcm, -⟩ := SlR.opened 0 hv
  unfold maxLen at hlcm hxcm
  have hl9 : ln ≤ 9223372036854775807 := by omega
  have hx9 : xn ≤ 9223372036854775807 := by omega
  have HLC := Lib.hid hlcell
  clear hlcell
  cases ht : validC xs
  · have HR : Hid (res = (⟨#[]⟩, false)) := by show res = _; rw [hres, out_EncodeLetters, ht]; rfl
    have HT := Lib.hid ht
    clear ht hres hlnl hxnl hv hu
    go_enter Try.func25, Try.ntmps25
    go_wp2_with (go_at_call 63; refine (implValidCode_any _ xs _ hv1).mono ?_; rw [HT.out]; rintro e w1 ⟨rfl, hb⟩)
    go_ret2
    exact ⟨by rw [HR.out]; rfl, HB.out.trans (hb.mono (by simp))⟩
  · have HT := Lib.hid ht
    have hR : res = encT xs ls := by rw [hres, out_EncodeLetters, ht]; rfl
    obtain ⟨p1, p2, p3, -⟩ := vC_parts ht
    by_cases h5 : ln ≤ 512
    · have h6 : ¬ (512 : Int) < (ln : Int) := by omega
      cases hal : ls.all (fun x => inB x 0 ((xn : Int) - 1))
      · have HR : Hid (res = (⟨#[]⟩, false)) := by show res = _; rw [hR, encT, encOk, hxnl, hal]; simp
        have HAL := Lib.hid hal
        clear ht hres hlnl hxnl hv hu hal hR p1 p2 p3
        go_enter Try.func25, Try.ntmps25
        go_wp2_with (first | (go_at_call 63; refine (implValidCode_any _ xs _ hv1).mono ?_; rw [HT.out]; rintro e w1 ⟨rfl, hb⟩; have hu2 := hu1.below hb; have hc1 := cell_step HC.out hb) | (go_at_call 64; refine (areWithin_any _ ls 0 ((xn : Int) - 1) _ hu2).mono ?_; rw [HAL.out]; rintro e w' ⟨rfl, rfl⟩))
        go_ret2
        exact ⟨by rw [HR.out]; rfl, HB.out.trans (hb.mono (by simp))⟩
      · have HAL := Lib.hid hal
        have HR : Hid (res = capB (encL (wordsL xs) ls ln)) := by show res = _; rw [hR, encT, encOk, hxnl, hal, hlnl]; simp [h5]
        have HWL : Hid (∀ W, SlR W (.slice xa xn xc) (xs.map (Value.int .i64)) → Calls Try.prog 65 #[.agg #[.slice xa xn xc]] W (RetSl W 9 xn ((wordsL xs).map Value.string) id)) := by
          show ∀ W, _
          intro W hW
          have h := words_any _ xs W hW ht
          rw [hxnl] at h
          exact h
        have HWN : Hid ((wordsL xs).length = xn) := by show _ = _; rw [wordsL_length, hxnl]
        have HBD : Hid (∀ k, (encL (wordsL xs) ls k).length ≤ 32 * k) := encL_bd p3
        have HWB : Hid (∀ k, (wby (wordsL xs) k).length ≤ 32) := wby_len p3
        have HLB : Hid (∀ k, k < ln → 0 ≤ ls[k]?.getD 0 ∧ ls[k]?.getD 0 ≤ (xn : Int) - 1) := by
          intro k hk
          rw [← hlnl] at hk
          rw [List.getElem?_eq_getElem hk]
          exact inB_true ((List.all_eq_true.1 hal) _ (List.getElem_mem hk))
        have hx1 : 1 ≤ xn := by omega
        have HLI := Lib.hid (fun (W : World) (hW : Below w.heap.size w W) => hu.below hW)
        generalize wordsL xs = ws at *
        clear ht hres hlnl hxnl hv hu hal hR p1 p2 p3
        go_enter Try.func25, Try.ntmps25
        go_wp2_with (first | (go_at_call 65; refine (HWL.out _ hv2).mono ?_; rintro e w2 ⟨wa, wc, rfl, hwo, hwb⟩) | (go_at_call 63; refine (implValidCode_any _ xs _ hv1).mono ?_; rw [HT.out]; rintro e w1 ⟨rfl, hb⟩; have hu2 := hu1.below hb; have hv2 := hv1.below hb; have hc1 := cell_step HC.out hb) | (go_at_call 64; refine (areWithin_any _ ls 0 ((xn : Int) - 1) _ hu2).mono ?_; rw [HAL.out]; rintro e w' ⟨rfl, rfl⟩))
        have hb3 : Below w.heap.size w w2 := (HB.out.trans (hb.mono (by simp))).trans (hwb.mono ((HB.out.trans (hb.mono (by simp))).size))
        obtain ⟨g, rfl, -, hg2⟩ := own_some hwo (by omega)
        have HWC : Hid (∀ j, j < xn → ∀ W, Below w2.heap.size w2 W → W.cell? ⟨g, j, none⟩ = some (.string ⟨(wby ws j).toArray⟩)) := by
          show ∀ j, _
          intro j hj W hW
          have h := hwo.cellAt j (by omega)
          rw [List.getElem?_map, List.getElem?_eq_getElem (by rw [HWN.out]; exact hj)] at h
          rw [hW.cell (p := ⟨g, j, none⟩) hg2, h]
          have e := wby_eq ws j
          rw [List.getElem?_eq_getElem (by rw [HWN.out]; exact hj)] at e
          simp only [Option.getD_some] at e
          simp [e]
        clear hu2 hv2 hc1 hb hwb hv1 hu1 hwo
        have hB0 : Lib.IsBuilder 88 5 w2.heap.size w2.heap.size (Lib.byteCells (encL ws ls 0)) (w2.alloc (.cells #[.pointer none, .slice none 0 0] 88)) := Lib.fresh_isBuilder _ _ w2
        go_loopw [9, 32] (fun _ i wr => ∃ k : Nat, k ≤ ln ∧ i = .int .i64 k ∧ Lib.IsBuilder 88 5 w2.heap.size w2.heap.size (Lib.byteCells (encL ws ls k)) wr ∧ Below w2.heap.size w2 wr) (fun _ i _ => ln - (intOf i).toNat)
        case atStart => exact ⟨0, Nat.zero_le _, rfl, hB0, by go_grown⟩
        case round =>
          clear hB0
          obtain ⟨k, hk, rfl, hB, hb⟩ := hrel
          have hbs := hb.size
          by_cases hlt : k < ln
          · obtain ⟨bb, off, rfl, hc0, hbl⟩ := HLC.out k hlt
            rw [List.getD_eq_getElem?_getD] at hc0
            have hc := (hb.cell (p := ⟨bb, off + k, none⟩) (Nat.lt_of_lt_of_le hbl hb3.size)).trans ((hb3.cell (p := ⟨bb, off + k, none⟩) hbl).trans hc0)
            obtain ⟨q1, q2⟩ := HLB.out k hlt
            have HE : Hid (encL ws ls (k + 1) = encL ws ls k ++ wby ws (ls[k]?.getD 0).toNat) := rfl
            have hlen := HBD.out k
            have hwl := HWB.out (ls[k]?.getD 0).toNat
            clear hc0
            generalize ls[k]?.getD 0 = x at *
            obtain ⟨j, rfl⟩ : ∃ j : Nat, x = (j : Int) := ⟨x.toNat, by omega⟩
            rw [Int.toNat_natCast] at HE hwl
            have hwc := HWC.out j (by omega) wr hb
            have hjn : j < xn := by omega
            generalize wby ws j = bs at *
            generalize encL ws ls k = l at *
            go_wp2_with (go_at_call 66; refine (writeString_any w2.heap.size w2.heap.size (Lib.byteCells l) ⟨bs.toArray⟩ _ hB (by show _ + (Array.size _) ≤ _; simp [Lib.byteCells]; omega) hbs).mono ?_; rw [byteCells_add]; rintro e w4 ⟨rfl, hB2, hb2⟩)
            go_roundw
            case rel => exact ⟨k + 1, by omega, by go_num, by rw [HE.out]; exact .inr hB2, hb.trans hb2⟩
            case measure => simp [intOf]; omega
          · obtain rfl : ln = k := by omega
            have hL5 : (encL ws ls ln).length ≤ 1048576 := by
              have := HBD.out ln; omega
            have HAB : Hid (∀ w, Calls Try.prog 67 #[.string ⟨(encL ws ls ln).toArray⟩] w fun e w' => e = .returned (.tuple #[.string res.1, .bool res.2]) ∧ w = w') := by
              show ∀ w, _
              rw [HR.out]
              exact fun w => asB_any _ w hL5
            generalize encL ws ls ln = l at *
            go_wp2_with (first | (go_at_call 68; refine (bldString_any w2.heap.size w2.heap.size l _ hB hbs).mono ?_; rintro e w5 ⟨rfl, hb5⟩) | (go_at_call 67; refine (HAB.out _).mono ?_; rintro e w' ⟨rfl, rfl⟩))
            go_ret2
            exact ⟨rfl, hb3.trans ((hb.trans hb5).mono hb3.size)⟩
    · have h6 : (512 : Int) < (ln : Int) := by omega
      have HR : Hid (res = (⟨#[]⟩, false)) := by show res = _; rw [hR, encT, encOk, hlnl, decide_eq_false h5]; rfl
      clear ht hres hlnl hxnl hv hu hR p1 p2 p3
      go_enter Try.func25, Try.ntmps25
      go_wp2_with (go_at_call 63; refine (implValidCode_any _ xs _ hv1).mono ?_; rw [HT.out]; rintro e w1 ⟨rfl, hb⟩; have hc1 := cell_step HC.out hb)
      go_ret2
      exact ⟨by rw [HR.out]; rfl, HB.out.trans (hb.mono (by simp))⟩

end Go.Proofs.Ytmhffnbneaggiaa
