/- The entropy of a table. -/
import Derived.Test.YtmocfnpbofeiiaaMEnt
import Derived.Test.YtmocfnpbofeiiaaMGiv
namespace Go.Proofs.Ytmocfnpbofeiiaa
set_option linter.unusedSimpArgs false
set_option linter.unusedVariables false
open Go.RowKit

theorem one_en {xs : List Nat} (h : oneB xs = true) : ∀ x ∈ xs, En x := fun x hx => by
  refine ⟨oneB_ch h x hx, Bd.of ?_⟩
  have h2 := (one_el h x hx).2
  show rg Ieee.single x ≤ _
  rw [rgs]
  have e : WK .f32 1 = 1073741824 := by decide
  rw [e]
  unfold W2 at h2
  omega
def out_TableEntropy (i j : Int) (xs : List Nat) : Nat × Bool := if validTb i j xs then (fz (entF xs), finB (entF xs)) else (0, false)
theorem nan0_TableEntropy (i j : Int) (_ : I64 i) (_ : I64 j) (xs : List Nat) (_ : ∀ x ∈ xs, x < 4294967296) (_ : xs.length ≤ 1048576) : nanB (out_TableEntropy i j xs).1 = false := by
  unfold out_TableEntropy
  split
  · exact fz_nan _
  · rfl
theorem te_no {i j : Int} {xs : List Nat} (h : validTb i j xs = false) : out_TableEntropy i j xs = (0, false) := by unfold out_TableEntropy; rw [h]; rfl
theorem te_yes {i j : Int} {xs : List Nat} (h : validTb i j xs = true) : out_TableEntropy i j xs = (fz (entF xs), finB (entF xs)) := by unfold out_TableEntropy; rw [h]; rfl

set_option maxHeartbeats 2000000 in
theorem impl_TableEntropy (w : World) (i j : Int) (hi : I64 i) (hj : I64 j) (v : Value) (xs : List Nat) (hv : SlR w v (xs.map (Value.float .f32))) (hx : ∀ x ∈ xs, x < 4294967296) (_ : xs.length ≤ 1048576) :
    Calls Try.prog 30 #[.agg #[.int .i64 i, .int .i64 j, v]] w fun e w' => e = .returned (.tuple #[.float .f32 (out_TableEntropy i j xs).1, .bool (out_TableEntropy i j xs).2]) ∧ Below w.heap.size w w' := by
  have HX := Lib.hid hx
  clear hx
  have hb0 : Below w.heap.size w (w.alloc (.cells #[.int .i64 i, .int .i64 j, v] 47)) := by go_grown
  have hv1 := hv.below hb0
  generalize hd : validTb i j xs = d
  have HD := Lib.hid hd
  cases d
  · rw [te_no hd]
    clear hd
    go_enter Try.func30, Try.ntmps30
    go_wp2_with (go_at_call 34; refine (implValidTable_any i j _ xs _ hv1 HX.out).mono ?_; rw [HD.out]; rintro e w' ⟨rfl, hb⟩)
    go_ret2
    exact ⟨rfl, hb0.trans (hb.mono (by simp))⟩
  · obtain ⟨a, m, rfl, rfl, a1, a2, m1, m2, hl, ho⟩ := validTb_nat hd
    have HL : Hid (xs.length ≤ 64) := by show xs.length ≤ 64; rw [hl]; exact prod_le a2 m2
    have HE := Lib.hid (one_en ho)
    rw [te_yes hd]
    clear hd ho hl
    generalize hen : entF xs = r
    have HR := Lib.hid hen
    clear hen
    go_enter Try.func30, Try.ntmps30
    go_wp2_with (first
      | (go_at_call 34; refine (implValidTable_any a m _ xs _ hv1 HX.out).mono ?_; rw [HD.out]; rintro e w1 ⟨rfl, hb⟩; have hb1 := hb0.trans (hb.mono (by simp)); obtain ⟨hc, -⟩ := bcell hb; have c2 : w1.cell? ⟨w.heap.size, 2, none⟩ = some v := (by rw [hc _ _ (by simp)]; simp); clear hc; have hv2 := hv.below hb1; clear hb)
      | (go_at_call 80; refine (entropy_any _ xs _ hv2 HE.out HL.out).mono ?_; rw [HR.out]; rintro e w2 ⟨rfl, mq, rfl⟩)
      | (go_at_call 63; refine (asNumber_any _ _).mono ?_; rintro e w5 ⟨rfl, mr, rfl⟩))
    go_ret2
    exact ⟨rfl, below_drewN hb1 _⟩


end Go.Proofs.Ytmocfnpbofeiiaa
