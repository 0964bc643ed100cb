/- The rows of a table and of a channel. -/
import Derived.Test.YtmhffnbneaggiaaFlt
namespace Go.Proofs.Ytmhffnbneaggiaa
set_option linter.unusedSimpArgs false
set_option linter.unusedVariables false
open Go.RowKit

/-- The row k of rows of m numbers. -/
def rowOf (xs : List Nat) (m k : Nat) : List Nat := (xs.drop (k * m)).take m
theorem rowOf_length {xs : List Nat} {m k : Nat} (h : (k + 1) * m ≤ xs.length) : (rowOf xs m k).length = m := by
  unfold rowOf; rw [Nat.add_mul, Nat.one_mul] at h; simp; omega
theorem rowOf_mem {xs : List Nat} {m k : Nat} {x : Nat} (h : x ∈ rowOf xs m k) : x ∈ xs := List.mem_of_mem_drop (List.mem_of_mem_take h)
theorem rowOf_getElem? {xs : List Nat} {m k l : Nat} (hl : l < m) : (rowOf xs m k)[l]? = xs[k * m + l]? := by
  unfold rowOf; rw [List.getElem?_take_of_lt hl, List.getElem?_drop]
/-- A part of a slice reads as a part of the list. -/
theorem SlR.part {w : World} {b off n c c' : Nat} {xs : List Nat} (hv : SlR w (.slice (some ⟨b, off, none⟩) n c) (xs.map (Value.float .f32))) {p m : Nat} (hp : p + m ≤ xs.length) (hc : m ≤ c') (hc' : c' ≤ maxLen) :
    SlR w (.slice (some ⟨b, off + p, none⟩) m c') (((xs.drop p).take m).map (Value.float .f32)) := by
  obtain ⟨a, c1, h1, h2, h3, h4⟩ := hv
  simp only [Value.slice.injEq] at h1
  obtain ⟨rfl, _, rfl⟩ := h1
  have hl : (((xs.drop p).take m).map (Value.float .f32)).length = m := by simp; omega
  refine ⟨some ⟨b, off + p, none⟩, c', by rw [hl], by rw [hl]; exact hc, hc', fun k u hu => ?_⟩
  have hk : k < m := by have := (List.getElem?_eq_some_iff.1 hu).1; omega
  rw [List.getElem?_map, List.getElem?_take_of_lt hk, List.getElem?_drop, ← List.getElem?_map] at hu
  obtain ⟨b', off', ha, hcc⟩ := h4 (p + k) u hu
  simp only [Option.some.injEq, Addr.mk.injEq] at ha
  obtain ⟨rfl, rfl, _⟩ := ha
  exact ⟨b, off + p, rfl, by rw [Nat.add_assoc]; exact hcc⟩
theorem SlR.addr {w : World} {v : Value} {xs : List Value} (h : SlR w v xs) (h0 : 0 < xs.length) : ∃ b off c, v = .slice (some ⟨b, off, none⟩) xs.length c ∧ xs.length ≤ c ∧ c ≤ maxLen := by
  obtain ⟨a, c, h1, h2, h3, h4⟩ := h
  obtain ⟨b, off, rfl, _⟩ := h4 0 _ (List.getElem?_eq_getElem h0)
  exact ⟨b, off, c, h1, h2, h3⟩
/-- The row k of what the slice v reads comes back, in whatever world. -/
def RetIn (v : Value) (xs : List Nat) (m k : Nat) (e : Ending) : Prop := ∃ a c, e = .returned (.slice a m c) ∧ ∀ W, SlR W v (xs.map (Value.float .f32)) → SlR W (.slice a m c) ((rowOf xs m k).map (Value.float .f32))
theorem RetIn.mk {v : Value} {xs : List Nat} {m k : Nat} {a : Option Addr} {c : Nat} (h : ∀ W, SlR W v (xs.map (Value.float .f32)) → SlR W (.slice a m c) ((rowOf xs m k).map (Value.float .f32))) : RetIn v xs m k (.returned (.slice a m c)) := ⟨a, c, rfl, h⟩

end Go.Proofs.Ytmhffnbneaggiaa
