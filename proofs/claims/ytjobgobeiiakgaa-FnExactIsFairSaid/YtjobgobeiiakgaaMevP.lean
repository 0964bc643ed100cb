/- Rows at least as even as others, plain: words sorted, sums of the greatest ones. -/
import Derived.Test.YtjobgobeiiakgaaSpr
import Derived.Test.YtjobgobeiiakgaaBlk
namespace Go.Proofs.Ytjobgobeiiakgaa
set_option linter.unusedSimpArgs false
set_option linter.unusedVariables false
open Go.RowKit
open Ieee

theorem order_ch {x y : Nat} (hx : Ch x) (hy : Ch y) : Ieee.single.order x y = some (compare (x % 2147483648) (y % 2147483648)) := by
  obtain ⟨o1, o2, o3⟩ := order_fin hx.fnt hy.fnt
  rw [hx.sv, hy.sv] at o1 o2 o3
  by_cases hlt : x % 2147483648 < y % 2147483648
  · rw [Nat.compare_eq_lt.2 hlt]; exact o1.2 (rv_lt _ hlt)
  · by_cases heq : x % 2147483648 = y % 2147483648
    · rw [Nat.compare_eq_eq.2 heq]; exact o2.2 (by rw [heq])
    · rw [Nat.compare_eq_gt.2 (by omega)]; exact o3.2 (rv_lt _ (by omega))
/-- The word at place x is greater than the one at place y. -/
def gtW (f : Nat → Nat) (x y : Nat) : Bool := decide (f y % 2147483648 < f x % 2147483648)
theorem gtW_sw (f : Nat → Nat) : SW (gtW f) :=
  ⟨fun _ => by simp [gtW], fun x y z h1 h2 => by simp [gtW] at *; omega, fun x y h => by simp [gtW] at *; omega⟩
/-- The words of a list by their places. -/
def wat (xs : List Nat) (i : Nat) : Nat := xs[i]?.getD 0
/-- The words, the greatest first. -/
def falF (xs : List Nat) : List Nat := (ordX (gtW (wat xs)) id xs.length).map (wat xs)
theorem falF_length (xs : List Nat) : (falF xs).length = xs.length := by unfold falF; rw [List.length_map, ordX_length]
theorem falF_mem {xs : List Nat} {x : Nat} (h : x ∈ falF xs) : x ∈ xs := by
  unfold falF at h
  obtain ⟨i, hi, rfl⟩ := List.mem_map.1 h
  obtain ⟨j, hj, e⟩ := ordX_mem hi
  replace e : i = j := e
  subst e
  show xs[i]?.getD 0 ∈ xs
  rw [List.getElem?_eq_getElem (by assumption)]
  exact List.getElem_mem _
theorem map_wat (xs : List Nat) : (List.range xs.length).map (wat xs) = xs := by
  refine List.ext_getElem (by simp) (fun i h1 h2 => ?_)
  simp [wat, List.getElem?_eq_getElem h2]
/-- Sums of the first k words. -/
def psF (l : List Nat) : Nat → Nat
  | 0 => 0
  | k + 1 => fA .add .f32 (psF l k) (l[k]?.getD 0)
theorem psF_ok {l : List Nat} (h : ∀ x ∈ l, Ch x) (k : Nat) (hk : k ≤ l.length) : psF l k ≤ 2139095040 := by
  induction k with
  | zero => exact Nat.zero_le _
  | succ k ih =>
    have hx : Ch (l[k]?.getD 0) := by rw [List.getElem?_eq_getElem (by omega)]; exact h _ (List.getElem_mem _)
    exact (add_pn (ih (by omega)) hx.pn).2.1
theorem psF_some {l : List Nat} (h : ∀ x ∈ l, Ch x) (k : Nat) (hk : k < l.length) : (floatBits .add .f32 (psF l k) (l[k]?.getD 0)).isSome = true := by
  have hx : Ch (l[k]?.getD 0) := by rw [List.getElem?_eq_getElem (by omega)]; exact h _ (List.getElem_mem _)
  exact (add_pn (psF_ok h k (by omega)) hx.pn).1
/-- The sums are no greater than the other ones, nearly. -/
def mevAt (u v : List Nat) (k : Nat) : Bool := decide (psF u (k + 1) ≤ fA .add .f32 (psF v (k + 1)) 897581056)
def mevB (u v : List Nat) (n : Nat) : Bool := (List.range n).all (mevAt u v)
def out_IsMoreEven (xs ys : List Nat) : Bool × Bool := if twB xs ys then (mevB (falF xs) (falF ys) xs.length, true) else (false, false)
theorem mevB_succ (u v : List Nat) (k : Nat) : mevB u v (k + 1) = (mevB u v k && mevAt u v k) := by
  unfold mevB; rw [List.range_succ, List.all_append]; simp
theorem mevB_false {u v : List Nat} {n k : Nat} (hk : k < n) (h : mevAt u v k = false) : mevB u v n = false := by
  unfold mevB; rw [List.all_eq_false]; exact ⟨k, List.mem_range.2 hk, by rw [h]; simp⟩
theorem ps_two {l m : List Nat} (hl : ∀ x ∈ l, Ch x) (hm : ∀ x ∈ m, Ch x) (k : Nat) (h1 : k < l.length) (h2 : k < m.length) :
    psF l (k + 1) ≤ 2139095040 ∧ psF m (k + 1) ≤ 2139095040 ∧ (floatBits .add .f32 (psF m (k + 1)) 897581056).isSome = true ∧ fA .add .f32 (psF m (k + 1)) 897581056 ≤ 2139095040 := by
  have a := psF_ok hl (k + 1) (by omega)
  have b := psF_ok hm (k + 1) (by omega)
  obtain ⟨c, d, _⟩ := add_pn b (show Pn 897581056 from .inl (by omega))
  exact ⟨a, b, c, d⟩
theorem cmp_pp {x y : Nat} (hx : x ≤ 2139095040) (hy : y ≤ 2139095040) : Ieee.single.order x y = some (compare x y) := order_pp hx hy
theorem ps_step {us vs : List Nat} {n : Nat} (c1 : ∀ x ∈ us, Ch x) (c2 : ∀ x ∈ vs, Ch x) (l1 : us.length = n) (l2 : vs.length = n) (k : Nat) (hk : k < n) :
    (floatBits .add .f32 (psF us k) (us[k]?.getD 0)).isSome = true ∧ (floatBits .add .f32 (psF vs k) (vs[k]?.getD 0)).isSome = true ∧ fA .add .f32 (psF us k) (us[k]?.getD 0) ≤ 2139095040 ∧
      (floatBits .add .f32 (fA .add .f32 (psF vs k) (vs[k]?.getD 0)) 897581056).isSome = true ∧ fA .add .f32 (fA .add .f32 (psF vs k) (vs[k]?.getD 0)) 897581056 ≤ 2139095040 := by
  obtain ⟨p1, p2, p3, p4⟩ := ps_two c1 c2 k (by omega) (by omega)
  exact ⟨psF_some c1 k (by omega), psF_some c2 k (by omega), p1, p3, p4⟩

end Go.Proofs.Ytjobgobeiiakgaa
