/- Words of which none is the beginning of another: the contracts. -/
import Derived.Test.YtjobgobeiiakgaaDoorPfx2
import Derived.Carry
namespace Go.Proofs.YtjobgobeiiakgaaDoor
set_option linter.unusedSimpArgs false
set_option linter.unusedVariables false
open Go.RowKit
open Go.Maps (Keyed Tidy IsMap has size)

set_option maxRecDepth 100000 in
set_option maxHeartbeats 2000000 in
theorem firstRests_any (v : Value) (ws : List ByteArray) (w : World) (hv : SlR w v (ws.map Value.string)) (hl : ∀ j, (wbx ws j).length ≤ 1048576) (h16 : ws.length ≤ 16) :
    Calls Tryd.prog 28 #[v] w fun e w' => e = .returned (.map (some w.heap.size)) ∧ OwM w' w.heap.size 512 (frA ws ws.length) ∧ Below w.heap.size w w' := by
  have hmm := @run_makeMap Tryd.prog
  obtain ⟨a, n, c, rfl, hnl, hnc, hcm, hcell⟩ := SlR.opened ⟨#[]⟩ hv
  unfold maxLen at hcm
  have hn9 : n ≤ 9223372036854775807 := by omega
  have hn16 : n ≤ 16 := by omega
  have HL := Lib.hid hl
  have HC := Lib.hid hcell
  have HN := Lib.hid hnl
  rw [hnl]
  have HS : Hid (∀ i, frA ws (i + 1) = frR ws i (frA ws i) n) := by
    show ∀ i, _
    intro i
    rw [← hnl]; rfl
  have HP : Hid (∀ (r u : List UInt8) (W : World), Calls Tryd.prog 41 #[.string ⟨r.toArray⟩, .string ⟨u.toArray⟩] W fun e w' => e = .returned (.bool (u.isPrefixOf r)) ∧ w' = W) := by
    show ∀ (r u : List UInt8) (W : World), _
    exact fun r u W => Tryd.strings_HasPrefix ⟨r.toArray⟩ ⟨u.toArray⟩ W
  clear hnl hcell hcm hnc hv hl h16
  go_enter Tryd.func28, Tryd.ntmps28
  go_wp2
  go_loopw [11] (fun q wr => ∃ i m : Nat, i ≤ n ∧ q = .int .i64 (i : Int) ∧ m ≤ 16 * i ∧ OwM wr w.heap.size m (frA ws i) ∧ Below w.heap.size w wr) (fun q _ => n - (intOf q).toNat)
  case atStart => exact ⟨0, 0, Nat.zero_le _, rfl, Nat.zero_le _, World.ownsMap_made _ _ _ _, (Below.refl _ _).alloc (Nat.le_refl _) _⟩
  case round =>
    obtain ⟨i, m, hi, rfl, hm, hown, hb⟩ := hrel
    by_cases hlt : i < n
    · obtain ⟨b0, off, rfl, hc0, hbl⟩ := HC.out i hlt
      rw [List.getD_eq_getElem?_getD, wbx_eq] at hc0
      have hc := cell_step hc0 hb
      have hui := HL.out i
      obtain ⟨u, hu⟩ : ∃ u, u = wbx ws i := ⟨_, rfl⟩
      rw [← hu] at hc hui
      have HU := Lib.hid hu
      clear hu hc0
      go_wp2
      go_loopw [18] (fun q wr => ∃ k m : Nat, k ≤ n ∧ q = .int .i64 (k : Int) ∧ m ≤ 16 * i + k ∧ OwM wr w.heap.size m (frR ws i (frA ws i) k) ∧ Below w.heap.size w wr) (fun q _ => n - (intOf q).toNat)
      case atStart => exact ⟨0, m, Nat.zero_le _, rfl, hm, hown, hb⟩
      case round =>
        clear hown hb hc hm
        obtain ⟨k, m, hk, rfl, hm, hown, hb⟩ := hrel
        by_cases hkn : k < n
        · obtain ⟨b1, off1, he1, hc1, hbl1⟩ := HC.out k hkn
          cases he1
          rw [List.getD_eq_getElem?_getD, wbx_eq] at hc1
          have hc2 := cell_step hc1 hb
          have hxk := HL.out k
          have HF : Hid (frR ws i (frA ws i) (k + 1) = if pfx ws i k then lowD (frR ws i (frA ws i) k) ((wbx ws k).drop (wbx ws i).length) (wbx ws k) else frR ws i (frA ws i) k) := Lib.hid rfl
          have HQ : Hid (pfx ws i k = (!decide (i = k) && u.isPrefixOf (wbx ws k))) := by show _ = _; rw [HU.out]; rfl
          rw [← HU.out] at HF
          obtain ⟨x, hx⟩ : ∃ x, x = wbx ws k := ⟨_, rfl⟩
          rw [← hx] at hc2 hxk HF HQ
          clear hx hc1
          by_cases hik : i = k
          · have HF1 : Hid (frR ws i (frA ws i) (k + 1) = frR ws i (frA ws i) k) := by show _ = _; rw [HF.out, HQ.out, decide_eq_true hik]; rfl
            have k1 : (i : Int) = (k : Int) := by omega
            have k2 : ((i : Int) == (k : Int)) = true := by rw [k1]; simp
            clear hik
            go_wp2
            go_roundw
            case rel => exact ⟨k + 1, m, by omega, by go_num, by omega, by rw [HF1.out]; exact hown, hb⟩
            case measure => simp [intOf]; omega
          · have k1 : ¬ (i : Int) = (k : Int) := by omega
            have hcall := HP.out x u wr
            cases hp : u.isPrefixOf x
            · have HF1 : Hid (frR ws i (frA ws i) (k + 1) = frR ws i (frA ws i) k) := by show _ = _; rw [HF.out, HQ.out, hp, Bool.and_false]; rfl
              rw [hp] at hcall
              have HCA := Lib.hid hcall
              clear hp hcall
              go_wp2_with (go_at_call 41; refine HCA.out.mono ?_; rintro e w1 ⟨rfl, rfl⟩)
              go_roundw
              case rel => exact ⟨k + 1, m, by omega, by go_num, by omega, by rw [HF1.out]; exact hown, hb⟩
              case measure => simp [intOf]; omega
            · have HF1 : Hid (frR ws i (frA ws i) (k + 1) = lowD (frR ws i (frA ws i) k) (x.drop u.length) x) := by show _ = _; rw [HF.out, HQ.out, hp, decide_eq_false hik]; rfl
              have hpl := List.IsPrefix.length_le (List.isPrefixOf_iff_prefix.1 hp)
              have hcut := run_cut_d x u.length hpl
              have hdl : (x.drop u.length).length ≤ 1048576 := by rw [List.length_drop]; omega
              rw [hp] at hcall
              have HCA := Lib.hid hcall
              have HLO := Lib.hid (lower_any wr w.heap.size m _ hown (by omega) (x.drop u.length) x hdl hxk)
              clear hp hcall hdl hpl
              generalize x.drop u.length = z at *
              go_wp2_with (first
                | (go_at_call 41; refine HCA.out.mono ?_; rintro e w1 ⟨rfl, rfl⟩)
                | (go_at_call 56; refine HLO.out.mono ?_; rintro e w2 ⟨rfl, hown2, ht2⟩))
              go_roundw
              case rel => exact ⟨k + 1, m + 1, by omega, by go_num, by omega, by rw [HF1.out]; exact hown2, hb.grown ht2.grown hb.size (fun j hj => by cases hj; exact Nat.le_refl _)⟩
              case measure => simp [intOf]; omega
        · obtain rfl : n = k := by omega
          go_wp2
          go_roundw
          case rel => exact ⟨i + 1, m, by omega, by go_num, by omega, by rw [HS.out]; exact hown, hb⟩
          case measure => simp [intOf]; omega
    · obtain rfl : n = i := by omega
      go_wp2
      go_ret
      exact ⟨rfl, World.ownsMap.mono hown (by omega), hb⟩
/-- How many bytes the words hold. -/
def tob (ws : List ByteArray) : Nat := (ws.map ByteArray.size).sum
theorem tob_mem (ws : List ByteArray) (k : Nat) : (wbx ws k).length ≤ tob ws := by
  induction ws generalizing k with
  | nil => exact Nat.zero_le _
  | cons x r ih =>
    have e : tob (x :: r) = x.size + tob r := by unfold tob; simp
    cases k with
    | zero =>
      have : (wbx (x :: r) 0).length = x.size := by show x.data.toList.length = _; simp
      omega
    | succ k =>
      have h := ih k
      have : wbx (x :: r) (k + 1) = wbx r k := rfl
      rw [this]; omega
theorem outPF_no {ws : List ByteArray} (h : wsOk ws = false) : out_IsPrefixFree ws = (false, false) := by unfold out_IsPrefixFree; rw [h]; rfl
theorem outPF_yes {ws : List ByteArray} (h : wsOk ws = true) : out_IsPrefixFree ws = (!anyP ws, true) := by unfold out_IsPrefixFree; rw [h]; rfl

set_option maxHeartbeats 1000000 in
theorem impl_IsPrefixFree (w : World) (v : Value) (ws : List ByteArray) (hv : SlR w v (ws.map Value.string)) (_ : ∀ x ∈ ws, x.size ≤ 9223372036854775807) (hl : ws.length + tob ws ≤ 1048576) :
    Calls Tryd.prog 8 #[v] w fun e w' => e = .returned (.tuple #[.bool (out_IsPrefixFree ws).1, .bool (out_IsPrefixFree ws).2]) ∧ Below w.heap.size w w' := by
  have hL : ∀ j, (wbx ws j).length ≤ 1048576 := fun j => by have := tob_mem ws j; omega
  have hA := areWords_any v ws w hv hL
  cases hk : wsOk ws
  · rw [outPF_no hk]
    rw [hk] at hA
    have HA := Lib.hid hA
    clear hk hA hL
    go_enter Tryd.func8, Tryd.ntmps8
    go_wp2_with (go_at_call 27; refine HA.out.mono ?_; rintro e w1 ⟨rfl, hb1⟩)
    go_ret2
    exact ⟨rfl, hb1⟩
  · rw [outPF_yes hk]
    rw [hk] at hA
    have HA := Lib.hid hA
    obtain ⟨p1, p2, -⟩ := wsOk_parts hk
    obtain ⟨f1, f2⟩ := frA_size ws
    have HF : Hid (∀ W, SlR W v (ws.map Value.string) → Calls Tryd.prog 28 #[v] W fun e w' => e = .returned (.map (some W.heap.size)) ∧ OwM w' W.heap.size 512 (frA ws ws.length) ∧ Below W.heap.size W w') := by
      show ∀ W, _
      intro W hW
      exact firstRests_any v ws W hW hL p2
    clear hk hA hL p1 p2
    generalize frA ws ws.length = D at *
    cases ha : anyP ws
    · have hs : size D = 0 := f2 ha
      have hs2 : ((size D : Nat) : Int) = 0 := by omega
      clear ha f1 f2
      go_enter Tryd.func8, Tryd.ntmps8
      go_wp2_with (first
        | (go_at_call 28; refine (HF.out _ hv1).mono ?_; rintro e w2 ⟨rfl, hown, hb2⟩)
        | (go_at_call 27; refine HA.out.mono ?_; rintro e w1 ⟨rfl, hb1⟩; have hv1 := hv.below hb1)
        | (at_len; refine wpList_len_own _ rfl _ 49 rfl 9 9 Tryd.underlying49 _ _ _ D rfl hown ?_)
        | go_in)
      go_ret2
      exact ⟨rfl, hb1.trans (hb2.mono hb1.size)⟩
    · have hs : 1 ≤ size D := f1 ha
      have hs2 : ¬ ((size D : Nat) : Int) = 0 := by omega
      have hs3 : ¬ size D = 0 := by omega
      have hs4 : Hid ((((size D : Nat) : Int) == 0) = false) := by show _ = _; simp; omega
      clear ha f1 f2
      go_enter Tryd.func8, Tryd.ntmps8
      go_wp2_with (first
        | (go_at_call 28; refine (HF.out _ hv1).mono ?_; rintro e w2 ⟨rfl, hown, hb2⟩)
        | (go_at_call 27; refine HA.out.mono ?_; rintro e w1 ⟨rfl, hb1⟩; have hv1 := hv.below hb1)
        | (at_len; refine wpList_len_own _ rfl _ 49 rfl 9 9 Tryd.underlying49 _ _ _ D rfl hown ?_)
        | go_in)
      go_ret2
      exact ⟨by show Ending.returned (.tuple #[.bool (((size D : Nat) : Int) == 0), .bool true]) = _; rw [hs4.out]; rfl, hb1.trans (hb2.mono hb1.size)⟩

end Go.Proofs.YtjobgobeiiakgaaDoor
