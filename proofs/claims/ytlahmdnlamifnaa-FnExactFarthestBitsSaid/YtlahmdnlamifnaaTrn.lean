/- A table with rows and columns exchanged. -/
import Derived.Test.YtlahmdnlamifnaaTab
import Derived.Test.YtlahmdnlamifnaaStb
namespace Go.Proofs.Ytlahmdnlamifnaa
set_option linter.unusedSimpArgs false
set_option linter.unusedVariables false
open Go.RowKit

/-- The column k of rows of m numbers, the first a of it. -/
def colOf (xs : List Nat) (m k a : Nat) : List Nat := (List.range a).map (fun r => xs[r * m + k]?.getD 0)
/-- The first k columns, one behind the other. -/
def turnOf (xs : List Nat) (m a k : Nat) : List Nat := (List.range k).flatMap (fun c => colOf xs m c a)
theorem colOf_succ (xs : List Nat) (m k a : Nat) : colOf xs m k (a + 1) = colOf xs m k a ++ [xs[a * m + k]?.getD 0] := by simp [colOf, List.range_succ]
theorem colOf_length (xs : List Nat) (m k a : Nat) : (colOf xs m k a).length = a := by simp [colOf]
theorem turnOf_succ (xs : List Nat) (m a k : Nat) : turnOf xs m a (k + 1) = turnOf xs m a k ++ colOf xs m k a := by simp [turnOf, List.range_succ]
theorem turnOf_length (xs : List Nat) (m a k : Nat) : (turnOf xs m a k).length = k * a := by
  induction k with
  | zero => simp [turnOf]
  | succ k ih => rw [turnOf_succ, List.length_append, ih, colOf_length, Nat.add_mul, Nat.one_mul]
theorem colOf_mem {xs : List Nat} {m k a : Nat} (h : a * m ≤ xs.length) (hk : k < m) {x : Nat} (hx : x ∈ colOf xs m k a) : x ∈ xs := by
  unfold colOf at hx
  obtain ⟨r, hr, rfl⟩ := List.mem_map.1 hx
  rw [List.mem_range] at hr
  have h1 : (r + 1) * m ≤ a * m := row_le hr
  rw [Nat.add_mul, Nat.one_mul] at h1
  rw [List.getElem?_eq_getElem (by omega)]
  exact List.getElem_mem _
theorem turnOf_mem {xs : List Nat} {m a k : Nat} (h : a * m ≤ xs.length) (hk : k ≤ m) {x : Nat} (hx : x ∈ turnOf xs m a k) : x ∈ xs := by
  unfold turnOf at hx
  obtain ⟨c, hc, hx⟩ := List.mem_flatMap.1 hx
  rw [List.mem_range] at hc
  exact colOf_mem h (by omega) hx
/-- A struct of two numbers and a slice of its own that reads ys comes back. -/
def RetSt (w : World) (i j : Int) (ys : List Nat) (e : Ending) (w' : World) : Prop :=
  ∃ a c, e = .returned (.agg #[.int .i64 i, .int .i64 j, .slice a ys.length c]) ∧ w'.ownsRow w.heap.size 22 1 (.slice a ys.length c) ys.length (ys.map (Value.float .f32)) ∧ Below w.heap.size w w'
theorem RetSt.mk {w w' : World} {i j : Int} {ys : List Nat} {a : Option Addr} {c : Nat} (h : w'.ownsRow w.heap.size 22 1 (.slice a ys.length c) ys.length (ys.map (Value.float .f32))) (hb : Below w.heap.size w w') :
    RetSt w i j ys (.returned (.agg #[.int .i64 i, .int .i64 j, .slice a ys.length c])) w' := ⟨a, c, rfl, h, hb⟩

end Go.Proofs.Ytlahmdnlamifnaa
