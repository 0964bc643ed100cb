/- How far two rows are apart, at a share: the two functions. -/
import Derived.Test.YtmocfnpbofeiiaaMFar
import Derived.Test.YtmocfnpbofeiiaaMLfn
namespace Go.Proofs.Ytmocfnpbofeiiaa
set_option linter.unusedSimpArgs false
set_option linter.unusedVariables false
open Go.RowKit

theorem shB_sh {s : Nat} (h : shB s = true) : Sh s := by
  have h := of_decide_eq_true h
  rcases h with h | rfl
  · have hf := fin_of_lt Ieee.single (x := s) (by rw [s_inf]; omega)
    refine ⟨hf, ?_, ?_⟩
    · rw [sv_of_le Ieee.single (by rw [s_inf]; omega)]; exact rv_nonneg _ _
    · rw [sv_of_le Ieee.single (by rw [s_inf]; omega), ← rs_1]; exact rv_le _ h
  · have h0 : sv Ieee.single 2147483648 = 0 := sv_rg0 (by decide)
    exact ⟨by unfold Fnt; decide, by rw [h0]; exact Rat.le_refl, by rw [h0]; decide +kernel⟩
def out_FarBits (xs ys : List Nat) (s : Nat) : Nat × Bool := if abvB xs ys && shB s then (fz (farF xs ys s), finB (farF xs ys s)) else (0, false)
theorem nan0_FarBits (xs : List Nat) (_ : ∀ x ∈ xs, x < 4294967296) (_ : xs.length ≤ 1048576) (ys : List Nat) (_ : ∀ x ∈ ys, x < 4294967296) (_ : ys.length ≤ 1048576) (s : Nat) (_ : s < 4294967296) : nanB (out_FarBits xs ys s).1 = false := by
  unfold out_FarBits
  split
  · exact fz_nan _
  · rfl

set_option maxHeartbeats 2000000 in
theorem impl_FarBits (w : World) (v : Value) (xs : List Nat) (hv : SlR w v (xs.map (Value.float .f32))) (hx : ∀ x ∈ xs, x < 4294967296) (_ : xs.length ≤ 1048576) (u : Value) (ys : List Nat) (hu : SlR w u (ys.map (Value.float .f32))) (hy : ∀ x ∈ ys, x < 4294967296) (_ : ys.length ≤ 1048576) (s : Nat) (hs : s < 4294967296) :
    Calls Try.prog 25 #[v, u, .float .f32 s] w fun e w' => e = .returned (.tuple #[.float .f32 (out_FarBits xs ys s).1, .bool (out_FarBits xs ys s).2]) ∧ Below w.heap.size w w' := by
  have HX := Lib.hid hx
  have HY := Lib.hid hy
  have HS := Lib.hid hs
  have HVB := Lib.hid (fun (W : World) (hq : Below w.heap.size w W) => hv.below hq)
  have HUB := Lib.hid (fun (W : World) (hq : Below w.heap.size w W) => hu.below hq)
  have HV := Lib.hid hv
  have HU := Lib.hid hu
  clear hx hy hs
  cases hd : abvB xs ys
  · have HD := Lib.hid hd
    have ho : out_FarBits xs ys s = (0, false) := by unfold out_FarBits; rw [hd]; rfl
    rw [ho]
    clear hd hv hu ho
    go_enter Try.func25, Try.ntmps25
    go_wp2_with (go_at_call 71; refine (areAbove_any _ _ xs ys _ HV.out HU.out HX.out HY.out).mono ?_; rw [HD.out]; rintro e w1 ⟨rfl, hq1⟩; have hb1 : Below w.heap.size w w1 := by first | exact hq1 | exact hq1.keep)
    go_ret2
    exact ⟨rfl, hb1⟩
  · cases ht : shB s
    · have HD := Lib.hid hd
      have HT : Hid (decide (s ≤ 1065353216 ∨ s = 2147483648) = false) := Lib.hid ht
      have ho : out_FarBits xs ys s = (0, false) := by unfold out_FarBits; rw [hd, ht]; rfl
      rw [ho]
      clear hd ht hv hu ho
      go_enter Try.func25, Try.ntmps25
      go_wp2_with (first
        | (go_at_call 75; refine (isShare_any _ _ HS.out).mono ?_; rw [HT.out]; rintro e w2 ⟨rfl, rfl⟩)
        | (go_at_call 71; refine (areAbove_any _ _ xs ys _ HV.out HU.out HX.out HY.out).mono ?_; rw [HD.out]; rintro e w1 ⟨rfl, hq1⟩; have hb1 : Below w.heap.size w w1 := by first | exact hq1 | exact hq1.keep))
      go_ret2
      exact ⟨rfl, hb1⟩
    · have HD := Lib.hid hd
      have HT : Hid (decide (s ≤ 1065353216 ∨ s = 2147483648) = true) := Lib.hid ht
      have ho : out_FarBits xs ys s = (fz (farF xs ys s), finB (farF xs ys s)) := by unfold out_FarBits; rw [hd, ht]; rfl
      rw [ho]
      obtain ⟨-, ax, ay, hl, h32⟩ := abvB_abv hd
      have sh := shB_sh ht
      have HF : Hid (∀ W : World, Below w.heap.size w W → Calls Try.prog 74 #[v, u, .float .f32 s] W fun e w' => e = .returned (.float .f32 (farF xs ys s)) ∧ Qu W w') := by
        show ∀ W : World, _
        exact fun W hq => farBits_any v u xs ys s W (HVB.out W hq) (HUB.out W hq) sh ax ay hl h32
      clear hd ht hv hu ho ax ay hl h32 sh
      generalize farF xs ys s = r at *
      go_enter Try.func25, Try.ntmps25
      go_wp2_with (first
        | (go_at_call 63; refine (asNumber_any _ _).mono ?_; rintro e w4 ⟨rfl, hq4⟩)
        | (go_at_call 74; refine (HF.out _ hb1).mono ?_; rintro e w3 ⟨rfl, hq3⟩)
        | (go_at_call 75; refine (isShare_any _ _ HS.out).mono ?_; rw [HT.out]; rintro e w2 ⟨rfl, rfl⟩)
        | (go_at_call 71; refine (areAbove_any _ _ xs ys _ HV.out HU.out HX.out HY.out).mono ?_; rw [HD.out]; rintro e w1 ⟨rfl, hq1⟩; have hb1 : Below w.heap.size w w1 := by first | exact hq1 | exact hq1.keep))
      go_ret2
      exact ⟨rfl, hb1.trans ((hq3.trans hq4).below _)⟩

end Go.Proofs.Ytmocfnpbofeiiaa
