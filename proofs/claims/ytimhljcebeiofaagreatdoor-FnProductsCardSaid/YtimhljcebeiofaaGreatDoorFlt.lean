/- The contracts of the plain functions on floats: finite numbers, sums, rows of chances. -/
import Derived.Test.YtimhljcebeiofaaGreatDoorCod
import Derived.Test.YtimhljcebeiofaaGreatDoorFw
namespace Go.Proofs.YtimhljcebeiofaaGreatDoor
set_option linter.unusedSimpArgs false
set_option linter.unusedVariables false
open Go.RowKit

theorem run_float_none (w : World) (op : BinOp) (t : TypeId) (x y : Nat) (hop : op = .add ∨ op = .sub ∨ op = .mul ∨ op = .quo) (h : floatBits op .f32 x y = none) : ∃ n, (binOp op t (.float .f32 x) (.float .f32 y)).run Tryz.prog w = .ok (.float .f32 n) w.drew ∧ nanB n = true := by
  have hn : ∀ t : Nat, nanB ((t % 2) * 2 ^ 31 + 0x7f800000 + 1 + (t / 2) % (2 ^ 23 - 1)) = true := by
    intro t; unfold nanB; refine decide_eq_true ?_
    rcases Nat.mod_two_eq_zero_or_one t with h | h <;> rw [h] <;> omega
  refine ⟨_, ?_, hn (w.tape w.drawn (.nanBits .f32 x y))⟩
  unfold floatBits at h
  rcases hop with rfl | rfl | rfl | rfl <;> simp only at h <;> simp [binOp, Op.floatArith, h, choose, Sem.run, Question.forced, Question.cut]

theorem all_take_succ {α : Type} (l : List α) (p : α → Bool) (k : Nat) (d : α) (h : k < l.length) : (l.take (k + 1)).all p = ((l.take k).all p && p (l[k]?.getD d)) := by
  rw [List.take_succ_eq_append_getElem h, List.all_append]
  simp [List.getElem?_eq_getElem h]
theorem all_false_of {α : Type} (l : List α) (p : α → Bool) (k : Nat) (d : α) (h : k < l.length) (hp : p (l[k]?.getD d) = false) : l.all p = false := by
  rw [List.all_eq_false]
  exact ⟨l[k], List.getElem_mem h, by simpa [List.getElem?_eq_getElem h] using hp⟩

set_option maxHeartbeats 400000 in
theorem implIsFinite_any (x : Nat) (w : World) : Calls Tryz.prog 50 #[.float .f32 x] w fun e w' => e = .returned (.bool (finB x)) ∧ Qu w w' := by
  generalize hf : finB x = t
  cases t
  · obtain ⟨n, hrun, hn⟩ := run_float_none w .sub 28 x x (.inr (.inl rfl)) (sub_self_inf hf)
    have ho : FloatKind.f32.format.order n 0 = none := order_nan hn 0
    clear hf hn
    go_enter Tryz.func50, Tryz.ntmps50
    go_wp2
    go_ret
    exact ⟨rfl, 1, rfl⟩
  · have hrun := run_float_arith (P := Tryz.prog) w .sub 28 .f32 x x 0 (sub_self_fin hf)
    have ho : FloatKind.f32.format.order 0 0 = some .eq := by decide
    clear hf
    go_enter Tryz.func50, Tryz.ntmps50
    go_wp2
    go_ret
    exact ⟨rfl, Qu.refl _⟩

set_option maxHeartbeats 400000 in
theorem l01Finite_any (x : Nat) (w : World) : Calls Tryz.prog 51 #[.float .f32 x] w fun e w' => e = .returned (.bool (finB x)) ∧ Qu w w' := by
  generalize hf : finB x = t
  cases t
  · obtain ⟨n, hrun, hn⟩ := run_float_none w .sub 28 x x (.inr (.inl rfl)) (sub_self_inf hf)
    have ho : FloatKind.f32.format.order n 0 = none := order_nan hn 0
    clear hf hn
    go_enter Tryz.func51, Tryz.ntmps51
    go_wp2
    go_ret
    exact ⟨rfl, 1, rfl⟩
  · have hrun := run_float_arith (P := Tryz.prog) w .sub 28 .f32 x x 0 (sub_self_fin hf)
    have ho : FloatKind.f32.format.order 0 0 = some .eq := by decide
    clear hf
    go_enter Tryz.func51, Tryz.ntmps51
    go_wp2
    go_ret
    exact ⟨rfl, Qu.refl _⟩

/-- The sum of a list, from +0 on. -/
def fsum (xs : List Nat) : Nat := xs.foldl (fA .add .f32) 0
theorem fsum_take_succ (xs : List Nat) (k : Nat) (h : k < xs.length) : fsum (xs.take (k + 1)) = fA .add .f32 (fsum (xs.take k)) (xs[k]?.getD 0) := by
  unfold fsum
  rw [List.take_succ_eq_append_getElem h, List.foldl_append]
  simp [List.getElem?_eq_getElem h]
theorem foldl_pn (xs : List Nat) (h : ∀ x ∈ xs, Pn x) : ∀ s, s ≤ 2139095040 → xs.foldl (fA .add .f32) s ≤ 2139095040 ∧ s ≤ xs.foldl (fA .add .f32) s ∧ ∀ x ∈ xs, x % 2147483648 ≤ xs.foldl (fA .add .f32) s := by
  induction xs with
  | nil => intro s hs; exact ⟨hs, Nat.le_refl _, fun x hx => by cases hx⟩
  | cons a l ih =>
    intro s hs
    obtain ⟨_, a2, a3, a4⟩ := add_pn hs (h a (List.mem_cons_self ..))
    obtain ⟨b1, b2, b3⟩ := ih (fun x hx => h x (List.mem_cons_of_mem _ hx)) _ a2
    rw [List.foldl_cons]
    refine ⟨b1, by omega, fun x hx => ?_⟩
    rcases List.mem_cons.1 hx with rfl | hx
    · omega
    · exact b3 x hx
theorem fsum_le {xs : List Nat} (h : ∀ x ∈ xs, Pn x) : fsum xs ≤ 2139095040 := (foldl_pn xs h 0 (by omega)).1
theorem le_fsum {xs : List Nat} (h : ∀ x ∈ xs, Pn x) : ∀ x ∈ xs, x % 2147483648 ≤ fsum xs := (foldl_pn xs h 0 (by omega)).2.2
theorem fsum_take_le {xs : List Nat} (h : ∀ x ∈ xs, Pn x) (k : Nat) : fsum (xs.take k) ≤ 2139095040 := fsum_le fun x hx => h x (List.mem_of_mem_take hx)
theorem get_pn {xs : List Nat} {p : Nat → Prop} (h : ∀ x ∈ xs, p x) {k : Nat} (hk : k < xs.length) : p (xs[k]?.getD 0) := by
  rw [List.getElem?_eq_getElem hk]; exact h _ (List.getElem_mem hk)
theorem ieq_true {i j : Int} (h : i = j) : (i == j) = true := by simp [h]
theorem ieq_false {i j : Int} (h : ¬ i = j) : (i == j) = false := by simp [h]
theorem ret_float {k : FloatKind} {a b : Nat} (h : a = b) : Ending.returned (.float k a) = .returned (.float k b) := by rw [h]

/-- A chance: finite, at least zero. -/
def chB (x : Nat) : Bool := decide (x < 2139095040 ∨ x = 2147483648)
theorem chB_ch {x : Nat} (h : chB x = true) : Ch x := by unfold chB at h; simpa [Ch] using h
theorem ch_finB {x : Nat} (h : Ch x) : finB x = true := by unfold Ch at h; unfold finB; exact decide_eq_true (by omega)
theorem all_ch {xs : List Nat} (h : xs.all chB = true) : ∀ x ∈ xs, Ch x := fun x hx => chB_ch (List.all_eq_true.1 h x hx)
theorem all_pn {xs : List Nat} (h : xs.all chB = true) : ∀ x ∈ xs, Pn x := fun x hx => (all_ch h x hx).pn
/-- What is finite and no chance is below zero. -/
theorem order_no {x : Nat} (hx : x < 4294967296) (h : chB x = false) (hf : finB x = true) : Ieee.single.order x 0 = some .lt := by
  have h1 := of_decide_eq_false h
  have h2 := of_decide_eq_true hf
  have e : x = 2147483648 + (x - 2147483648) := by omega
  rw [e, order_nz (by omega), if_neg (by omega)]
/-- A sum is nearly 1. -/
def nearB (s : Nat) : Bool := decide (fA .sub .f32 s 1065353216 % 2147483648 ≤ 981668463)
/-- Chances that are nearly 1 altogether. -/
def oneB (xs : List Nat) : Bool := xs.all chB && nearB (fsum xs)
def rowB (xs : List Nat) : Bool := decide (1 ≤ xs.length) && decide (xs.length ≤ 32) && oneB xs
theorem oneB_ch {xs : List Nat} (h : oneB xs = true) : ∀ x ∈ xs, Ch x := by
  unfold oneB at h; rw [Bool.and_eq_true] at h; exact all_ch h.1
theorem rowB_one {xs : List Nat} (h : rowB xs = true) : 1 ≤ xs.length ∧ xs.length ≤ 32 ∧ oneB xs = true := by
  unfold rowB at h; simp only [Bool.and_eq_true, decide_eq_true_eq] at h; exact ⟨h.1.1, h.1.2, h.2⟩
theorem leq_pp {x y : Nat} (hx : x ≤ 2139095040) (hy : y ≤ 2139095040) : (Ieee.single.order x y == some .lt || Ieee.single.order x y == some .eq) = decide (x ≤ y) := by
  rw [order_pp hx hy]
  by_cases h : x < y
  · rw [Nat.compare_eq_lt.2 h, decide_eq_true (by omega)]; rfl
  · by_cases h' : x = y
    · rw [Nat.compare_eq_eq.2 h', decide_eq_true (by omega)]; rfl
    · rw [Nat.compare_eq_gt.2 (by omega), decide_eq_false (by omega)]; rfl
theorem leq_np {q y : Nat} (hq : q ≤ 2139095040) (hy : y ≤ 2139095040) (h0 : 0 < y) : (Ieee.single.order (2147483648 + q) y == some .lt || Ieee.single.order (2147483648 + q) y == some .eq) = true := by
  rw [order_np hq hy h0]; rfl

/-- A number, and 0 for one that is not finite. -/
def fz (x : Nat) : Nat := if finB x then x else 0
theorem fz_nan (x : Nat) : nanB (fz x) = false := by
  unfold fz
  cases h : finB x
  · rfl
  · have := of_decide_eq_true h
    exact decide_eq_false (by simp only [if_true]; omega)

end Go.Proofs.YtimhljcebeiofaaGreatDoor
