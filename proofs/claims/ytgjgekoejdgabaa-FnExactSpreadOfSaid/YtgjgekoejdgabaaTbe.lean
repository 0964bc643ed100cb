/- The entropy of a table. -/
import Derived.Test.YtgjgekoejdgabaaEnt
import Derived.Test.YtgjgekoejdgabaaTab
namespace Go.Proofs.Ytgjgekoejdgabaa
set_option linter.unusedSimpArgs false
set_option linter.unusedVariables false
open Go.RowKit

theorem one_en {xs : List Nat} (h : oneB xs = true) : ∀ x ∈ xs, En x := fun x hx => by
  refine ⟨oneB_ch h x hx, Bd.of ?_⟩
  have h2 := (one_el h x hx).2
  show rg Ieee.single x ≤ _
  rw [rgs]
  have e : WK .f32 1 = 1073741824 := by decide
  rw [e]
  unfold W2 at h2
  omega
def out_TableEntropy (i j : Int) (xs : List Nat) : Nat × Bool := if validTb i j xs then (fz (entF xs), finB (entF xs)) else (0, false)
theorem nan0_TableEntropy (i j : Int) (_ : I64 i) (_ : I64 j) (xs : List Nat) (_ : ∀ x ∈ xs, x < 4294967296) (_ : xs.length ≤ 1048576) : nanB (out_TableEntropy i j xs).1 = false := by
  unfold out_TableEntropy
  split
  · exact fz_nan _
  · rfl
theorem te_no {i j : Int} {xs : List Nat} (h : validTb i j xs = false) : out_TableEntropy i j xs = (0, false) := by unfold out_TableEntropy; rw [h]; rfl
theorem te_yes {i j : Int} {xs : List Nat} (h : validTb i j xs = true) : out_TableEntropy i j xs = (fz (entF xs), finB (entF xs)) := by unfold out_TableEntropy; rw [h]; rfl

set_option maxHeartbeats 2000000 in
theorem impl_TableEntropy (w : World) (i j : Int) (hi : I64 i) (hj : I64 j) (v : Value) (xs : List Nat) (hv : SlR w v (xs.map (Value.float .f32))) (hx : ∀ x ∈ xs, x < 4294967296) (_ : xs.length ≤ 1048576) :
    Calls Try.prog 33 #[.agg #[.int .i64 i, .int .i64 j, v]] w fun e w' => e = .returned (.tuple #[.float .f32 (out_TableEntropy i j xs).1, .bool (out_TableEntropy i j xs).2]) ∧ Below w.heap.size w w' := by
  have HX := Lib.hid hx
  clear hx
  have hb0 : Below w.heap.size w (w.alloc (.cells #[.int .i64 i, .int .i64 j, v] 34)) := by go_grown
  have hv1 := hv.below hb0
  generalize hd : validTb i j xs = d
  have HD := Lib.hid hd
  cases d
  · rw [te_no hd]
    clear hd
    go_enter Try.func33, Try.ntmps33
    go_wp2_with (go_at_call 75; refine (implValidTable_any i j _ xs _ hv1 HX.out).mono ?_; rw [HD.out]; rintro e w' ⟨rfl, hb⟩)
    go_ret2
    exact ⟨rfl, hb0.trans (hb.mono (by simp))⟩
  · obtain ⟨a, m, rfl, rfl, a1, a2, m1, m2, hl, ho⟩ := validTb_nat hd
    have HL : Hid (xs.length ≤ 64) := by show xs.length ≤ 64; rw [hl]; exact prod_le a2 m2
    have HE := Lib.hid (one_en ho)
    rw [te_yes hd]
    clear hd ho hl
    generalize hen : entF xs = r
    have HR := Lib.hid hen
    clear hen
    go_enter Try.func33, Try.ntmps33
    go_wp2_with (first
      | (go_at_call 75; refine (implValidTable_any a m _ xs _ hv1 HX.out).mono ?_; rw [HD.out]; rintro e w1 ⟨rfl, hb⟩; have hb1 := hb0.trans (hb.mono (by simp)); obtain ⟨hc, -⟩ := bcell hb; have c2 : w1.cell? ⟨w.heap.size, 2, none⟩ = some v := (by rw [hc _ _ (by simp)]; simp); clear hc; have hv2 := hv.below hb1; clear hb)
      | (go_at_call 65; refine (entropy_any _ xs _ hv2 HE.out HL.out).mono ?_; rw [HR.out]; rintro e w2 ⟨rfl, mq, rfl⟩)
      | (go_at_call 66; refine (asNumber_any _ _).mono ?_; rintro e w5 ⟨rfl, mr, rfl⟩))
    go_ret2
    exact ⟨rfl, below_drewN hb1 _⟩

set_option maxHeartbeats 2000000 in
theorem spec_TableEntropy (w : World) (i j : Int) (hi : I64 i) (hj : I64 j) (v : Value) (xs : List Nat) (hv : SlR w v (xs.map (Value.float .f32))) (hx : ∀ x ∈ xs, x < 4294967296) (_ : xs.length ≤ 1048576) :
    Calls Try.prog 31 #[.agg #[.int .i64 i, .int .i64 j, v]] w fun e w' => e = .returned (.tuple #[.float .f32 (out_TableEntropy i j xs).1, .bool (out_TableEntropy i j xs).2]) ∧ Below w.heap.size w w' := by
  have HX := Lib.hid hx
  clear hx
  have hb0 : Below w.heap.size w (w.alloc (.cells #[.int .i64 i, .int .i64 j, v] 34)) := by go_grown
  have hv1 := hv.below hb0
  have c0 : World.cell? (w.alloc (.cells #[.int .i64 i, .int .i64 j, v] 34)) ⟨w.heap.size, 0, none⟩ = some (.int .i64 i) := by simp
  have c1 : World.cell? (w.alloc (.cells #[.int .i64 i, .int .i64 j, v] 34)) ⟨w.heap.size, 1, none⟩ = some (.int .i64 j) := by simp
  have c2 : World.cell? (w.alloc (.cells #[.int .i64 i, .int .i64 j, v] 34)) ⟨w.heap.size, 2, none⟩ = some v := by simp
  generalize hd : validTb i j xs = d
  have HD := Lib.hid hd
  cases d
  · rw [te_no hd]
    clear hd
    go_enter Try.func31, Try.ntmps31
    go_wp2_with (go_at_call 71; refine (l02Table_any _ i j _ xs _ c0 c1 c2 hv1 HX.out).mono ?_; rw [HD.out]; rintro e w' ⟨rfl, mq, rfl⟩)
    go_ret2
    exact ⟨rfl, below_drewN hb0 _⟩
  · obtain ⟨a, m, rfl, rfl, a1, a2, m1, m2, hl, ho⟩ := validTb_nat hd
    have HL : Hid (xs.length ≤ 64) := by show xs.length ≤ 64; rw [hl]; exact prod_le a2 m2
    have HE := Lib.hid (one_en ho)
    rw [te_yes hd]
    clear hd ho hl
    generalize hen : entF xs = r
    have HR := Lib.hid hen
    clear hen
    go_enter Try.func31, Try.ntmps31
    go_wp2_with (first
      | (go_at_call 71; refine (l02Table_any _ a m _ xs _ c0 c1 c2 hv1 HX.out).mono ?_; rw [HD.out]; rintro e w1 ⟨rfl, hqu⟩; have hb1 := hb0.trans (hqu.below _); have d2 := cell_step c2 hqu.keep; have hv2 := hv.below hb1; clear hqu)
      | (go_at_call 61; refine (l02Entropy_any _ xs _ hv2 HE.out HL.out).mono ?_; rw [HR.out]; rintro e w2 ⟨rfl, mq, rfl⟩)
      | (go_at_call 62; refine (l02Number_any _ _).mono ?_; rintro e w5 ⟨rfl, mr, rfl⟩))
    go_ret2
    exact ⟨rfl, below_drewN hb1 _⟩

end Go.Proofs.Ytgjgekoejdgabaa
