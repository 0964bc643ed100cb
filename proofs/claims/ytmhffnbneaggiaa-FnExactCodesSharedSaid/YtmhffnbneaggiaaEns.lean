/- Letters written as words: the reference's contracts. -/
import Derived.Test.YtmhffnbneaggiaaEnc
namespace Go.Proofs.Ytmhffnbneaggiaa
set_option linter.unusedSimpArgs false
set_option linter.unusedVariables false
open Go.RowKit

set_option maxHeartbeats 4000000 in
theorem l04Encode_any (gp : Nat) (w : World) (v : Value) (xs : List Int) (hg : w.cell? ⟨gp, 0, none⟩ = some v) (hv : SlR w v (xs.map (Value.int .i64))) (ht : validC xs = true) (u : Value) (ls : List Int) (hu : SlR w u (ls.map (Value.int .i64))) :
    Calls Try.prog 62 #[.pointer (some ⟨gp, 0, none⟩), u] w fun e w' => e = .returned (.tuple #[.string (encT xs ls).1, .bool (encT xs ls).2]) ∧ Below w.heap.size w w' := by
  obtain ⟨res, hres⟩ : ∃ res, res = encT xs ls := ⟨_, rfl⟩
  rw [← hres]
  obtain ⟨la, ln, lc, rfl, hlnl, hlnc, hlcm, hlcell⟩ := SlR.opened 0 hu
  unfold maxLen at hlcm
  have hl9 : ln ≤ 9223372036854775807 := by omega
  have HLC := Lib.hid hlcell
  clear hlcell
  obtain ⟨p1, p2, p3, -⟩ := vC_parts ht
  obtain ⟨xn, hxnl⟩ : ∃ xn, xs.length = xn := ⟨_, rfl⟩
  have HWL : Hid (Calls Try.prog 69 #[.pointer (some ⟨gp, 0, none⟩)] w (RetSl w 9 xn ((wordsL xs).map Value.string) id)) := by
    have h := l04Words_any gp v xs w hg hv ht
    rw [hxnl] at h
    exact h
  have HWN : Hid ((wordsL xs).length = xn) := by show _ = _; rw [wordsL_length, hxnl]
  have HBD : Hid (∀ k, (encL (wordsL xs) ls k).length ≤ 32 * k) := encL_bd p3
  have HWB : Hid (∀ k, (wby (wordsL xs) k).length ≤ 32) := wby_len p3
  have hx1 : 1 ≤ xn := by omega
  have hx16 : xn ≤ 16 := by omega
  by_cases h5 : ln ≤ 512
  · have h6 : ¬ (512 : Int) < (ln : Int) := by omega
    have h7 : decide ((ln : Int) ≤ 512) = true := decide_eq_true (by omega)
    have h8 : decide (ln ≤ 512) = true := decide_eq_true h5
    have HBAD : Hid (∀ k, k < ln → inB (ls[k]?.getD 0) 0 ((xn : Int) - 1) = false → res = (⟨#[]⟩, false)) := by
      intro k hk hf
      have : ls.all (fun x => inB x 0 ((xn : Int) - 1)) = false := all_false_of ls _ k 0 (by omega) hf
      rw [hres, encT, encOk, hxnl, this]; simp
    have HEND : Hid (ls.all (fun x => inB x 0 ((xn : Int) - 1)) = true → res = capB (encL (wordsL xs) ls ln)) := by
      intro h
      rw [hres, encT, encOk, hxnl, h, hlnl]; simp [h5]
    have HALL : Hid (ls.take ln = ls) := List.take_of_length_le (by omega)
    have HLN := Lib.hid hlnl
    generalize wordsL xs = ws at *
    clear hres hlnl hxnl hv hu hg ht p1 p2 p3
    go_enter Try.func62, Try.ntmps62
    go_wp2_with (go_at_call 69; refine HWL.out.mono ?_; rintro e w2 ⟨wa, wc, rfl, hwo, hwb⟩)
    obtain ⟨g, rfl, -, hg2⟩ := own_some hwo (by omega)
    have HWC : Hid (∀ j, j < xn → w2.cell? ⟨g, j, none⟩ = some (.string ⟨(wby ws j).toArray⟩)) := by
      show ∀ j, _
      intro j hj
      have h := hwo.cellAt j (by omega)
      rw [List.getElem?_map, List.getElem?_eq_getElem (by rw [HWN.out]; exact hj)] at h
      rw [h]
      have e := wby_eq ws j
      rw [List.getElem?_eq_getElem (by rw [HWN.out]; exact hj)] at e
      simp only [Option.getD_some] at e
      simp [e]
    have HB2 := Lib.hid hwb
    clear hwo
    go_loop [7, 8] (fun s i => ∃ k : Nat, k ≤ ln ∧ i = .int .i64 k ∧ s = .string ⟨(encL ws ls k).toArray⟩ ∧ (ls.take k).all (fun x => inB x 0 ((xn : Int) - 1)) = true) (fun _ i => ln - (intOf i).toNat)
    case atStart => exact ⟨0, Nat.zero_le _, rfl, rfl, rfl⟩
    case round =>
      obtain ⟨k, hk, rfl, rfl, hall⟩ := hrel
      have HA := Lib.hid hall
      clear hall
      by_cases hlt : k < ln
      · obtain ⟨bb, off, rfl, hc0, hbl⟩ := HLC.out k hlt
        rw [List.getD_eq_getElem?_getD] at hc0
        have hc := (HB2.out.cell (p := ⟨bb, off + k, none⟩) hbl).trans hc0
        have HE : Hid (encL ws ls (k + 1) = encL ws ls k ++ wby ws (ls[k]?.getD 0).toNat) := rfl
        have hlen := HBD.out k
        have hwl := HWB.out (ls[k]?.getD 0).toNat
        generalize hin : inB (ls[k]?.getD 0) 0 ((xn : Int) - 1) = t
        have HT := Lib.hid hin
        cases t
        · have HO := Lib.hid (HBAD.out k hlt hin)
          clear hin hc0
          go_wp2_with (go_at_call 56; refine (l00In_any _ _ _ _).mono ?_; rw [HT.out]; rintro e w' ⟨rfl, rfl⟩)
          go_ret2
          exact ⟨by rw [HO.out]; rfl, HB2.out⟩
        · have hq := inB_true hin
          have HA2 : Hid ((ls.take (k + 1)).all (fun x => inB x 0 ((xn : Int) - 1)) = true) := by
            show _ = _
            rw [all_take_succ ls _ k 0 (by rw [HLN.out]; exact hlt), HA.out, hin]; rfl
          clear hin hc0
          generalize ls[k]?.getD 0 = x at *
          obtain ⟨j, rfl⟩ : ∃ j : Nat, x = (j : Int) := ⟨x.toNat, by omega⟩
          rw [Int.toNat_natCast] at HE hwl
          have hwc := HWC.out j (by omega)
          have hjn : j < xn := by omega
          clear hq
          generalize wby ws j = bs at *
          generalize encL ws ls k = l at *
          go_wp2_with (go_at_call 56; refine (l00In_any _ _ _ _).mono ?_; rw [HT.out]; rintro e w' ⟨rfl, rfl⟩)
          go_round
          case rel => exact ⟨k + 1, by omega, by go_num, by rw [HE.out]; exact congrArg Value.string (ByteArray.mk_append_mk l bs), HA2.out⟩
          case measure => simp [intOf]; omega
      · obtain rfl : ln = k := by omega
        have hA := HA.out
        rw [HALL.out] at hA
        have HR := Lib.hid (HEND.out hA)
        have hlen := HBD.out ln
        clear hA
        by_cases h9 : (encL ws ls ln).length ≤ 512
        · have h10 : ¬ (512 : Int) < ((encL ws ls ln).length : Int) := by omega
          have HRR : Hid (res = (⟨(encL ws ls ln).toArray⟩, true)) := by show res = _; rw [HR.out, capB_yes h9]
          generalize encL ws ls ln = l at *
          go_wp2
          go_ret2
          exact ⟨by rw [HRR.out]; rfl, HB2.out⟩
        · have h10 : (512 : Int) < ((encL ws ls ln).length : Int) := by omega
          have HRR : Hid (res = (⟨#[]⟩, false)) := by show res = _; rw [HR.out, capB_no h9]
          generalize encL ws ls ln = l at *
          go_wp2
          go_ret2
          exact ⟨by rw [HRR.out]; rfl, HB2.out⟩
  · have h6 : (512 : Int) < (ln : Int) := by omega
    have h7 : decide ((ln : Int) ≤ 512) = false := decide_eq_false (by omega)
    have h8 : decide (ln ≤ 512) = false := decide_eq_false h5
    have HR : Hid (res = (⟨#[]⟩, false)) := by show res = _; rw [hres, encT, encOk, hlnl, decide_eq_false h5]; rfl
    clear hres hlnl hxnl hv hu hg ht p1 p2 p3
    go_enter Try.func62, Try.ntmps62
    go_wp2_with (go_at_call 69; refine HWL.out.mono ?_; rintro e w2 ⟨wa, wc, rfl, hwo, hwb⟩)
    refine wp_loop_rounds 1 ?_
    rw [rounds_succ]
    by_cases h0 : (0 : Int) < (ln : Int)
    · go_wp2
      go_ret2
      exact ⟨by rw [HR.out]; rfl, hwb⟩
    · exact absurd h6 (by omega)

set_option maxHeartbeats 1000000 in
theorem spec_EncodeLetters (w : World) (v : Value) (xs : List Int) (hv : SlR w v (xs.map (Value.int .i64))) (_ : ∀ x ∈ xs, I64 x) (_ : xs.length ≤ 1048576) (u : Value) (ls : List Int) (hu : SlR w u (ls.map (Value.int .i64))) (_ : ∀ x ∈ ls, I64 x) (_ : ls.length ≤ 1048576) :
    Calls Try.prog 23 #[.agg #[v], u] w fun e w' => e = .returned (.tuple #[.string (out_EncodeLetters xs ls).1, .bool (out_EncodeLetters xs ls).2]) ∧ Below w.heap.size w w' := by
  have hb0 : Below w.heap.size w (w.alloc (.cells #[v] 24)) := by go_grown
  have hv1 := hv.below hb0
  have hu1 := hu.below hb0
  have hc : (w.alloc (.cells #[v] 24)).cell? ⟨w.heap.size, 0, none⟩ = some v := by simp
  have HB := Lib.hid hb0
  have HC := Lib.hid hc
  clear hb0 hc
  generalize ht : validC xs = t
  have HT := Lib.hid ht
  cases t
  · have hr : out_EncodeLetters xs ls = (⟨#[]⟩, false) := by rw [out_EncodeLetters, ht]; rfl
    rw [hr]
    clear ht hr
    go_enter Try.func23, Try.ntmps23
    go_wp2_with (go_at_call 61; refine (l04Is_any _ _ xs _ HC.out hv1).mono ?_; rw [HT.out]; rintro e w1 ⟨rfl, hq⟩)
    go_ret2
    exact ⟨rfl, HB.out.trans (hq.below _)⟩
  · have hr : out_EncodeLetters xs ls = encT xs ls := by rw [out_EncodeLetters, ht]; rfl
    rw [hr]
    obtain ⟨res, hres⟩ : ∃ res, res = encT xs ls := ⟨_, rfl⟩
    have HW : Hid (∀ W g, W.cell? ⟨g, 0, none⟩ = some v → SlR W v (xs.map (Value.int .i64)) → SlR W u (ls.map (Value.int .i64)) → Calls Try.prog 62 #[.pointer (some ⟨g, 0, none⟩), u] W fun e w' => e = .returned (.tuple #[.string res.1, .bool res.2]) ∧ Below W.heap.size W w') := by
      show ∀ W g, _
      intro W g h1 h2 h3
      rw [hres]
      exact l04Encode_any g W v xs h1 h2 ht u ls h3
    rw [← hres]
    clear ht hr hres
    go_enter Try.func23, Try.ntmps23
    go_wp2_with (first | (go_at_call 62; refine (HW.out _ _ hc1 hv2 hu2).mono ?_; rintro e w2 ⟨rfl, hb2⟩) | (go_at_call 61; refine (l04Is_any _ _ xs _ HC.out hv1).mono ?_; rw [HT.out]; rintro e w1 ⟨rfl, hq⟩; have hv2 := hv1.below hq.keep; have hu2 := hu1.below hq.keep; have hc1 := cell_step HC.out hq.keep))
    go_ret2
    exact ⟨rfl, (HB.out.trans (hq.below _)).trans (hb2.mono (HB.out.trans (hq.below _)).size)⟩

end Go.Proofs.Ytmhffnbneaggiaa
