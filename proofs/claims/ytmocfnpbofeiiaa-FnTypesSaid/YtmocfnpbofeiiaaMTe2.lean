/- Errors of tests: chances of types, on both sides. -/
import Derived.Test.YtmocfnpbofeiiaaMTe1
namespace Go.Proofs.Ytmocfnpbofeiiaa
set_option linter.unusedSimpArgs false
set_option linter.unusedVariables false
open Go.RowKit
open Ieee
theorem fz_fin {x e : Nat} (h : Bd .f32 e x) (he : e ≤ 127) : finB x = true ∧ fz x = x := by
  have hf := h.fnt (k := .f32) he
  have hb : finB x = true := by
    unfold Fnt at hf
    have : rg single x < 2139095040 := hf
    rw [rgs] at this
    exact decide_eq_true this
  exact ⟨hb, by unfold fz; rw [hb]; rfl⟩
/-- What the walks of products want. -/
theorem pr_step {n L : Nat} {row cs : List Nat} (hT : Ty n L cs) (hn : n ≤ 12) (hr : Abv row) (hl : row.length = L) {j : Nat} (hj : j < L) {p : Nat} (hp : p ≤ cs[j]?.getD 0) : (floatBits .mul .f32 (mulN (prP row cs L j) (row[j]?.getD 0) p) (row[j]?.getD 0)).isSome = true := by
  have hb := prP_bd hT hn hr hl j (by omega)
  obtain ⟨a, b⟩ := hT.at hj
  exact (mulN_bd hb (row_bd hr (j := j) (by omega)) p (by omega)).2

set_option maxRecDepth 4000 in
set_option maxHeartbeats 4000000 in
theorem implChance_any (n L : Nat) (row cs : List Nat) (v u : Value) (w : World) (hT : Ty n L cs) (hn : n ≤ 12) (hL : L = 2 ∨ L = 3) (hr : Abv row) (hl : row.length = L) (hrow : rowB row = true) (hv : SlR w v (row.map (Value.float .f32))) (hu : SlR w u (cs.map nvI)) :
    Calls Try.prog 13 #[v, u] w fun e w' => e = .returned (.tuple #[.float .f32 (chF row cs L), .bool true]) ∧ Qu w w' := by
  have HWO := Lib.hid (implWords_any n L cs u w hT hn hL hu)
  have hw32 : ∀ x ∈ row, x < 4294967296 := fun x hx => by have := (hr x hx).2; omega
  have hIR := isRow_any v row w hv hw32
  rw [hrow] at hIR
  have HIR := Lib.hid hIR
  obtain ⟨f1, f2⟩ := fz_fin (chF_bd hT hn hr hl) (by omega)
  have HAN : Hid (∀ W, Calls Try.prog 63 #[.float .f32 (chF row cs L)] W fun e w' => e = .returned (.tuple #[.float .f32 (chF row cs L), .bool true]) ∧ Qu W w') := Lib.hid fun W => by
    have := asNumber_any (chF row cs L) W
    rw [f1, f2] at this
    exact this
  have HPS : Hid (∀ j, j < L → ∀ p, p ≤ cs[j]?.getD 0 → (floatBits .mul .f32 (mulN (prP row cs L j) (row[j]?.getD 0) p) (row[j]?.getD 0)).isSome = true) := Lib.hid fun j hj p hp => pr_step hT hn hr hl hj hp
  have HPJ : Hid (∀ j, prP row cs L (j + 1) = mulN (prP row cs L j) (row[j]?.getD 0) (cs[j]?.getD 0)) := Lib.hid fun j => rfl
  have HP0 : Hid (floatOfInt .f32 ((wsP cs L : Nat) : Int) = prP row cs L 0) := rfl
  have HCB : Hid (∀ j, j < L → cs[j]?.getD 0 ≤ 12) := Lib.hid fun j hj => by obtain ⟨a, b⟩ := hT.at hj; omega
  have HPE : Hid (chF row cs L = prP row cs L L) := rfl
  obtain ⟨b1, o1, k1, rfl, n1, m1, cell1⟩ := sl_cells hv hl (by omega)
  obtain ⟨b2, o2, k2, rfl, n2, m2, cell2⟩ := sl_nats hu hT.len (by omega)
  have HC1 := Lib.hid cell1
  have HC2 := Lib.hid cell2
  unfold maxLen at m1 m2
  have hL3 : L ≤ 3 := by omega
  clear cell1 cell2 hv hu hT hr hl hrow hIR hw32 f1 f2 hL
  generalize chF row cs L = res at *
  generalize wsP cs L = ws at *
  go_enter Try.func13, Try.ntmps13
  go_wp2_with (first
    | (go_at_call 50; refine HIR.out.mono ?_; rintro e w2 ⟨rfl, hq2⟩)
    | (go_at_call 12; refine HWO.out.mono ?_; rintro e w' ⟨rfl, rfl⟩))
  rw [HP0.out]
  go_loopw [8, 34] (fun o i W => ∃ j : Nat, j ≤ L ∧ i = .int .i64 (j : Int) ∧ o = .float .f32 (prP row cs L j) ∧ Qu w W) (fun _ i _ => L - (intOf i).toNat)
  case atStart => exact ⟨0, Nat.zero_le _, rfl, rfl, hq2⟩
  case round =>
    clear hq2
    obtain ⟨j, hj, rfl, rfl, hq⟩ := hrel
    by_cases hlt : j < L
    · have d1 := HC1.out wr hq.keep j hlt
      have d2 := HC2.out wr hq.keep j hlt
      have HP := Lib.hid (HPS.out j hlt)
      have HJ := Lib.hid (HPJ.out j)
      have hc12 := HCB.out j hlt
      generalize row[j]?.getD 0 = r at *
      generalize cs[j]?.getD 0 = x at *
      obtain ⟨X, hX⟩ : ∃ X, X = prP row cs L j := ⟨_, rfl⟩
      rw [← hX] at HP HJ ⊢
      clear hX
      go_wp2_with fail
      have HM0 : Hid (X = mulN X r 0) := rfl
      go_loopw [8, 40] (fun o i W => ∃ p : Nat, p ≤ x ∧ i = .int .i64 (p : Int) ∧ o = .float .f32 (mulN X r p) ∧ wr = W) (fun _ i _ => x - (intOf i).toNat)
      case atStart => exact ⟨0, Nat.zero_le _, rfl, by rw [← HM0.out], rfl⟩
      case round =>
        obtain ⟨p, hp, rfl, rfl, rfl⟩ := hrel
        by_cases hlt2 : p < x
        · have hs := HP.out p hp
          have HMS : Hid (fA .mul .f32 (mulN X r p) r = mulN X r (p + 1)) := rfl
          generalize mulN X r p = Y at *
          go_wp2
          go_roundw
          case rel => exact ⟨p + 1, by omega, by go_num, by rw [← HMS.out], by first | rfl | trivial⟩
          case measure => simp [intOf]; omega
        · obtain rfl : p = x := by omega
          rw [← HJ.out]
          go_wp2
          go_roundw
          case rel => exact ⟨j + 1, by omega, by go_num, rfl, hq⟩
          case measure => simp [intOf]; omega
    · obtain rfl : j = L := by omega
      rw [← HPE.out]
      go_wp2_with (go_at_call 63; refine (HAN.out _).mono ?_; rintro e w3 ⟨rfl, hq3⟩)
      go_ret2
      exact ⟨rfl, hq.trans hq3⟩

end Go.Proofs.Ytmocfnpbofeiiaa
