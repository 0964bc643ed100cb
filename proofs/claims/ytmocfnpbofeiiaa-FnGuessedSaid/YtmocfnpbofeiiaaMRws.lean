/- The rows of a table and of a channel. -/
import Derived.Test.YtmocfnpbofeiiaaMFlt
namespace Go.Proofs.Ytmocfnpbofeiiaa
set_option linter.unusedSimpArgs false
set_option linter.unusedVariables false
open Go.RowKit

/-- The row k of rows of m numbers. -/
def rowOf (xs : List Nat) (m k : Nat) : List Nat := (xs.drop (k * m)).take m
theorem rowOf_length {xs : List Nat} {m k : Nat} (h : (k + 1) * m ≤ xs.length) : (rowOf xs m k).length = m := by
  unfold rowOf; rw [Nat.add_mul, Nat.one_mul] at h; simp; omega
theorem rowOf_mem {xs : List Nat} {m k : Nat} {x : Nat} (h : x ∈ rowOf xs m k) : x ∈ xs := List.mem_of_mem_drop (List.mem_of_mem_take h)
theorem rowOf_getElem? {xs : List Nat} {m k l : Nat} (hl : l < m) : (rowOf xs m k)[l]? = xs[k * m + l]? := by
  unfold rowOf; rw [List.getElem?_take_of_lt hl, List.getElem?_drop]
/-- A part of a slice reads as a part of the list. -/
theorem SlR.part {w : World} {b off n c c' : Nat} {xs : List Nat} (hv : SlR w (.slice (some ⟨b, off, none⟩) n c) (xs.map (Value.float .f32))) {p m : Nat} (hp : p + m ≤ xs.length) (hc : m ≤ c') (hc' : c' ≤ maxLen) :
    SlR w (.slice (some ⟨b, off + p, none⟩) m c') (((xs.drop p).take m).map (Value.float .f32)) := by
  obtain ⟨a, c1, h1, h2, h3, h4⟩ := hv
  simp only [Value.slice.injEq] at h1
  obtain ⟨rfl, _, rfl⟩ := h1
  have hl : (((xs.drop p).take m).map (Value.float .f32)).length = m := by simp; omega
  refine ⟨some ⟨b, off + p, none⟩, c', by rw [hl], by rw [hl]; exact hc, hc', fun k u hu => ?_⟩
  have hk : k < m := by have := (List.getElem?_eq_some_iff.1 hu).1; omega
  rw [List.getElem?_map, List.getElem?_take_of_lt hk, List.getElem?_drop, ← List.getElem?_map] at hu
  obtain ⟨b', off', ha, hcc⟩ := h4 (p + k) u hu
  simp only [Option.some.injEq, Addr.mk.injEq] at ha
  obtain ⟨rfl, rfl, _⟩ := ha
  exact ⟨b, off + p, rfl, by rw [Nat.add_assoc]; exact hcc⟩
theorem SlR.addr {w : World} {v : Value} {xs : List Value} (h : SlR w v xs) (h0 : 0 < xs.length) : ∃ b off c, v = .slice (some ⟨b, off, none⟩) xs.length c ∧ xs.length ≤ c ∧ c ≤ maxLen := by
  obtain ⟨a, c, h1, h2, h3, h4⟩ := h
  obtain ⟨b, off, rfl, _⟩ := h4 0 _ (List.getElem?_eq_getElem h0)
  exact ⟨b, off, c, h1, h2, h3⟩
/-- The row k of what the slice v reads comes back, in whatever world. -/
def RetIn (v : Value) (xs : List Nat) (m k : Nat) (e : Ending) : Prop := ∃ a c, e = .returned (.slice a m c) ∧ ∀ W, SlR W v (xs.map (Value.float .f32)) → SlR W (.slice a m c) ((rowOf xs m k).map (Value.float .f32))
theorem RetIn.mk {v : Value} {xs : List Nat} {m k : Nat} {a : Option Addr} {c : Nat} (h : ∀ W, SlR W v (xs.map (Value.float .f32)) → SlR W (.slice a m c) ((rowOf xs m k).map (Value.float .f32))) : RetIn v xs m k (.returned (.slice a m c)) := ⟨a, c, rfl, h⟩

set_option maxHeartbeats 1000000 in
theorem chRow_any (i : Int) (m k : Nat) (v : Value) (xs : List Nat) (w : World) (hv : SlR w v (xs.map (Value.float .f32))) (h1 : 1 ≤ m) (h2 : m ≤ 64) (h3 : k ≤ 64) (hk : (k + 1) * m ≤ xs.length) :
    Calls Try.prog 114 #[.agg #[.int .i64 i, .int .i64 m, v], .int .i64 k] w fun e w' => RetIn v xs m k e ∧ w' = w.alloc (.cells #[.int .i64 i, .int .i64 m, v] 59) := by
  have hkm : (k + 1) * m = k * m + m := by rw [Nat.add_mul, Nat.one_mul]
  obtain ⟨b, off, c, rfl, hnc, hcm⟩ := SlR.addr hv (by simp; omega)
  simp only [List.length_map] at hv hnc ⊢
  have hcm' : c ≤ 9223372036854775807 := by unfold maxLen at hcm; omega
  obtain ⟨p, hp⟩ : ∃ p : Nat, p = k * m := ⟨_, rfl⟩
  have hpb : p ≤ 4096 := by rw [hp]; exact Nat.le_trans (Nat.mul_le_mul h3 h2) (by decide)
  obtain ⟨q, hq⟩ : ∃ q : Nat, q = p + m := ⟨_, rfl⟩
  have HR : Hid (∀ W, SlR W (.slice (some ⟨b, off, none⟩) xs.length c) (xs.map (Value.float .f32)) → SlR W (.slice (some ⟨b, off + p, none⟩) m m) ((rowOf xs m k).map (Value.float .f32))) := by
    show ∀ W, _; intro W hvW; unfold rowOf; rw [← hp]; exact SlR.part hvW (by omega) (Nat.le_refl _) (by unfold maxLen; omega)
  have e1 : (k : Int) * (m : Int) = (p : Int) := by rw [hp]; simp
  have e2 : ((k : Int) + 1) * (m : Int) = (q : Int) := by rw [Int.add_mul, e1, Int.one_mul, hq]; simp
  have e3 : q - p = m := by omega
  have hne : ¬ q = p := by omega
  have hpq : p ≤ q := by omega
  have hqn : q ≤ xs.length := by omega
  have hqc : q ≤ c := by omega
  have hqb : q ≤ 5000 := by omega
  clear hp hq hkm hk hv hnc
  generalize xs.length = n at *
  go_enter Try.func114, Try.ntmps114
  go_wp2
  go_ret
  exact ⟨RetIn.mk HR.out, rfl⟩

set_option maxHeartbeats 1000000 in
theorem tbRow_any (i : Int) (m k : Nat) (v : Value) (xs : List Nat) (w : World) (hv : SlR w v (xs.map (Value.float .f32))) (h1 : 1 ≤ m) (h2 : m ≤ 64) (h3 : k ≤ 64) (hk : (k + 1) * m ≤ xs.length) :
    Calls Try.prog 82 #[.agg #[.int .i64 i, .int .i64 m, v], .int .i64 k] w fun e w' => RetIn v xs m k e ∧ w' = w.alloc (.cells #[.int .i64 i, .int .i64 m, v] 47) := by
  have hkm : (k + 1) * m = k * m + m := by rw [Nat.add_mul, Nat.one_mul]
  obtain ⟨b, off, c, rfl, hnc, hcm⟩ := SlR.addr hv (by simp; omega)
  simp only [List.length_map] at hv hnc ⊢
  have hcm' : c ≤ 9223372036854775807 := by unfold maxLen at hcm; omega
  obtain ⟨p, hp⟩ : ∃ p : Nat, p = k * m := ⟨_, rfl⟩
  have hpb : p ≤ 4096 := by rw [hp]; exact Nat.le_trans (Nat.mul_le_mul h3 h2) (by decide)
  obtain ⟨q, hq⟩ : ∃ q : Nat, q = p + m := ⟨_, rfl⟩
  have HR : Hid (∀ W, SlR W (.slice (some ⟨b, off, none⟩) xs.length c) (xs.map (Value.float .f32)) → SlR W (.slice (some ⟨b, off + p, none⟩) m m) ((rowOf xs m k).map (Value.float .f32))) := by
    show ∀ W, _; intro W hvW; unfold rowOf; rw [← hp]; exact SlR.part hvW (by omega) (Nat.le_refl _) (by unfold maxLen; omega)
  have e1 : (k : Int) * (m : Int) = (p : Int) := by rw [hp]; simp
  have e2 : ((k : Int) + 1) * (m : Int) = (q : Int) := by rw [Int.add_mul, e1, Int.one_mul, hq]; simp
  have e3 : q - p = m := by omega
  have hne : ¬ q = p := by omega
  have hpq : p ≤ q := by omega
  have hqn : q ≤ xs.length := by omega
  have hqc : q ≤ c := by omega
  have hqb : q ≤ 5000 := by omega
  clear hp hq hkm hk hv hnc
  generalize xs.length = n at *
  go_enter Try.func82, Try.ntmps82
  go_wp2
  go_ret
  exact ⟨RetIn.mk HR.out, rfl⟩

set_option maxHeartbeats 1000000 in
theorem l03Row_any (g : Nat) (m k : Nat) (v : Value) (xs : List Nat) (w : World) (hg1 : w.cell? ⟨g, 1, none⟩ = some (.int .i64 m)) (hg2 : w.cell? ⟨g, 2, none⟩ = some v) (hv : SlR w v (xs.map (Value.float .f32))) (h1 : 1 ≤ m) (h2 : m ≤ 64) (h3 : k ≤ 64) (hk : (k + 1) * m ≤ xs.length) :
    Calls Try.prog 138 #[.pointer (some ⟨g, 0, none⟩), .int .i64 k] w fun e w' => RetIn v xs m k e ∧ Qu w w' := by
  have hkm : (k + 1) * m = k * m + m := by rw [Nat.add_mul, Nat.one_mul]
  obtain ⟨b, off, c, rfl, hnc, hcm⟩ := SlR.addr hv (by simp; omega)
  simp only [List.length_map] at hv hnc hg2 ⊢
  have hcm' : c ≤ 9223372036854775807 := by unfold maxLen at hcm; omega
  obtain ⟨p, hp⟩ : ∃ p : Nat, p = k * m := ⟨_, rfl⟩
  have hpb : p ≤ 4096 := by rw [hp]; exact Nat.le_trans (Nat.mul_le_mul h3 h2) (by decide)
  obtain ⟨q, hq⟩ : ∃ q : Nat, q = p + m := ⟨_, rfl⟩
  have HR : Hid (∀ W, SlR W (.slice (some ⟨b, off, none⟩) xs.length c) (xs.map (Value.float .f32)) → SlR W (.slice (some ⟨b, off + p, none⟩) m (c - p)) ((rowOf xs m k).map (Value.float .f32))) := by
    show ∀ W, _; intro W hvW; unfold rowOf; rw [← hp]; exact SlR.part hvW (by omega) (by omega) (by unfold maxLen at hcm ⊢; omega)
  have e1 : (k : Int) * (m : Int) = (p : Int) := by rw [hp]; simp
  have e2 : ((k : Int) + 1) * (m : Int) = (q : Int) := by rw [Int.add_mul, e1, Int.one_mul, hq]; simp
  have e3 : q - p = m := by omega
  have hne : ¬ c = p := by omega
  have hpq : p ≤ q := by omega
  have hqn : q ≤ xs.length := by omega
  have hqc : q ≤ c := by omega
  have hqb : q ≤ 5000 := by omega
  have f1 : IntKind.i64.wrap ((k : Int) * (m : Int)) = (p : Int) := by rw [e1]; exact IntWalk.i64_in _ (by omega)
  have f2 : IntKind.i64.wrap ((k : Int) + 1) = (k : Int) + 1 := IntWalk.i64_in _ (by omega)
  have f3 : IntKind.i64.wrap (((k : Int) + 1) * (m : Int)) = (q : Int) := by rw [e2]; exact IntWalk.i64_in _ (by omega)
  have f4 : (0 : Int) ≤ (p : Int) := by omega
  have f5 : (p : Int) ≤ (q : Int) := by omega
  have f6 : (q : Int) ≤ (c : Int) := by omega
  clear hp hq hkm hk hv hnc
  generalize xs.length = n at *
  go_enter Try.func138, Try.ntmps138
  go_wp2
  go_quiet (fail)
  go_wp2
  go_ret
  exact ⟨RetIn.mk HR.out, _, rfl⟩

set_option maxHeartbeats 1000000 in
theorem l02At_any (g : Nat) (m k : Nat) (v : Value) (xs : List Nat) (w : World) (hg1 : w.cell? ⟨g, 1, none⟩ = some (.int .i64 m)) (hg2 : w.cell? ⟨g, 2, none⟩ = some v) (hv : SlR w v (xs.map (Value.float .f32))) (h1 : 1 ≤ m) (h2 : m ≤ 64) (h3 : k ≤ 64) (hk : (k + 1) * m ≤ xs.length) :
    Calls Try.prog 120 #[.pointer (some ⟨g, 0, none⟩), .int .i64 k] w fun e w' => RetIn v xs m k e ∧ Qu w w' := by
  have hkm : (k + 1) * m = k * m + m := by rw [Nat.add_mul, Nat.one_mul]
  obtain ⟨b, off, c, rfl, hnc, hcm⟩ := SlR.addr hv (by simp; omega)
  simp only [List.length_map] at hv hnc hg2 ⊢
  have hcm' : c ≤ 9223372036854775807 := by unfold maxLen at hcm; omega
  obtain ⟨p, hp⟩ : ∃ p : Nat, p = k * m := ⟨_, rfl⟩
  have hpb : p ≤ 4096 := by rw [hp]; exact Nat.le_trans (Nat.mul_le_mul h3 h2) (by decide)
  obtain ⟨q, hq⟩ : ∃ q : Nat, q = p + m := ⟨_, rfl⟩
  have HR : Hid (∀ W, SlR W (.slice (some ⟨b, off, none⟩) xs.length c) (xs.map (Value.float .f32)) → SlR W (.slice (some ⟨b, off + p, none⟩) m (c - p)) ((rowOf xs m k).map (Value.float .f32))) := by
    show ∀ W, _; intro W hvW; unfold rowOf; rw [← hp]; exact SlR.part hvW (by omega) (by omega) (by unfold maxLen at hcm ⊢; omega)
  have e1 : (k : Int) * (m : Int) = (p : Int) := by rw [hp]; simp
  have e2 : ((k : Int) + 1) * (m : Int) = (q : Int) := by rw [Int.add_mul, e1, Int.one_mul, hq]; simp
  have e3 : q - p = m := by omega
  have hne : ¬ c = p := by omega
  have hpq : p ≤ q := by omega
  have hqn : q ≤ xs.length := by omega
  have hqc : q ≤ c := by omega
  have hqb : q ≤ 5000 := by omega
  have f1 : IntKind.i64.wrap ((k : Int) * (m : Int)) = (p : Int) := by rw [e1]; exact IntWalk.i64_in _ (by omega)
  have f2 : IntKind.i64.wrap ((k : Int) + 1) = (k : Int) + 1 := IntWalk.i64_in _ (by omega)
  have f3 : IntKind.i64.wrap (((k : Int) + 1) * (m : Int)) = (q : Int) := by rw [e2]; exact IntWalk.i64_in _ (by omega)
  have f4 : (0 : Int) ≤ (p : Int) := by omega
  have f5 : (p : Int) ≤ (q : Int) := by omega
  have f6 : (q : Int) ≤ (c : Int) := by omega
  clear hp hq hkm hk hv hnc
  generalize xs.length = n at *
  go_enter Try.func120, Try.ntmps120
  go_wp2
  go_quiet (fail)
  go_wp2
  go_ret
  exact ⟨RetIn.mk HR.out, _, rfl⟩

set_option maxHeartbeats 1000000 in
theorem chRow_at (i : Int) (m k p b off n c : Nat) (w : World) (hp : p = k * m) (h1 : 1 ≤ m) (h2 : m ≤ 64) (h3 : k ≤ 64) (hk : p + m ≤ n) (hnc : n ≤ c) (hcm : c ≤ maxLen) :
    Calls Try.prog 114 #[.agg #[.int .i64 i, .int .i64 m, .slice (some ⟨b, off, none⟩) n c], .int .i64 k] w fun e w' => e = .returned (.slice (some ⟨b, off + p, none⟩) m m) ∧ w' = w.alloc (.cells #[.int .i64 i, .int .i64 m, .slice (some ⟨b, off, none⟩) n c] 59) := by
  have hcm' : c ≤ 9223372036854775807 := by unfold maxLen at hcm; omega
  have hpb : p ≤ 4096 := by rw [hp]; exact Nat.le_trans (Nat.mul_le_mul h3 h2) (by decide)
  obtain ⟨q, hq⟩ : ∃ q : Nat, q = p + m := ⟨_, rfl⟩
  have e1 : (k : Int) * (m : Int) = (p : Int) := by rw [hp]; simp
  have e2 : ((k : Int) + 1) * (m : Int) = (q : Int) := by rw [Int.add_mul, e1, Int.one_mul, hq]; simp
  have e3 : q - p = m := by omega
  have hne : ¬ q = p := by omega
  have hpq : p ≤ q := by omega
  have hqn : q ≤ n := by omega
  have hqc : q ≤ c := by omega
  have hqb : q ≤ 5000 := by omega
  clear hp hq hk
  go_enter Try.func114, Try.ntmps114
  go_wp2
  go_ret
  exact ⟨rfl, rfl⟩

set_option maxHeartbeats 1000000 in
theorem tbRow_at (i : Int) (m k p b off n c : Nat) (w : World) (hp : p = k * m) (h1 : 1 ≤ m) (h2 : m ≤ 64) (h3 : k ≤ 64) (hk : p + m ≤ n) (hnc : n ≤ c) (hcm : c ≤ maxLen) :
    Calls Try.prog 82 #[.agg #[.int .i64 i, .int .i64 m, .slice (some ⟨b, off, none⟩) n c], .int .i64 k] w fun e w' => e = .returned (.slice (some ⟨b, off + p, none⟩) m m) ∧ w' = w.alloc (.cells #[.int .i64 i, .int .i64 m, .slice (some ⟨b, off, none⟩) n c] 47) := by
  have hcm' : c ≤ 9223372036854775807 := by unfold maxLen at hcm; omega
  have hpb : p ≤ 4096 := by rw [hp]; exact Nat.le_trans (Nat.mul_le_mul h3 h2) (by decide)
  obtain ⟨q, hq⟩ : ∃ q : Nat, q = p + m := ⟨_, rfl⟩
  have e1 : (k : Int) * (m : Int) = (p : Int) := by rw [hp]; simp
  have e2 : ((k : Int) + 1) * (m : Int) = (q : Int) := by rw [Int.add_mul, e1, Int.one_mul, hq]; simp
  have e3 : q - p = m := by omega
  have hne : ¬ q = p := by omega
  have hpq : p ≤ q := by omega
  have hqn : q ≤ n := by omega
  have hqc : q ≤ c := by omega
  have hqb : q ≤ 5000 := by omega
  clear hp hq hk
  go_enter Try.func82, Try.ntmps82
  go_wp2
  go_ret
  exact ⟨rfl, rfl⟩

end Go.Proofs.Ytmocfnpbofeiiaa
