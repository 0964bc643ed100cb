/- The rows of a table and of a channel. -/
import Derived.Test.YtmocfnpbofeiiaaMFlt
namespace Go.Proofs.Ytmocfnpbofeiiaa
set_option linter.unusedSimpArgs false
set_option linter.unusedVariables false
open Go.RowKit

/-- The row k of rows of m numbers. -/
def rowOf (xs : List Nat) (m k : Nat) : List Nat := (xs.drop (k * m)).take m
theorem rowOf_length {xs : List Nat} {m k : Nat} (h : (k + 1) * m ≤ xs.length) : (rowOf xs m k).length = m := by
  unfold rowOf; rw [Nat.add_mul, Nat.one_mul] at h; simp; omega
theorem rowOf_mem {xs : List Nat} {m k : Nat} {x : Nat} (h : x ∈ rowOf xs m k) : x ∈ xs := List.mem_of_mem_drop (List.mem_of_mem_take h)
theorem rowOf_getElem? {xs : List Nat} {m k l : Nat} (hl : l < m) : (rowOf xs m k)[l]? = xs[k * m + l]? := by
  unfold rowOf; rw [List.getElem?_take_of_lt hl, List.getElem?_drop]
/-- A part of a slice reads as a part of the list. -/
theorem SlR.part {w : World} {b off n c c' : Nat} {xs : List Nat} (hv : SlR w (.slice (some ⟨b, off, none⟩) n c) (xs.map (Value.float .f32))) {p m : Nat} (hp : p + m ≤ xs.length) (hc : m ≤ c') (hc' : c' ≤ maxLen) :
    SlR w (.slice (some ⟨b, off + p, none⟩) m c') (((xs.drop p).take m).map (Value.float .f32)) := by
  obtain ⟨a, c1, h1, h2, h3, h4⟩ := hv
  simp only [Value.slice.injEq] at h1
  obtain ⟨rfl, _, rfl⟩ := h1
  have hl : (((xs.drop p).take m).map (Value.float .f32)).length = m := by simp; omega
  refine ⟨some ⟨b, off + p, none⟩, c', by rw [hl], by rw [hl]; exact hc, hc', fun k u hu => ?_⟩
  have hk : k < m := by have := (List.getElem?_eq_some_iff.1 hu).1; omega
  rw [List.getElem?_map, List.getElem?_take_of_lt hk, List.getElem?_drop, ← List.getElem?_map] at hu
  obtain ⟨b', off', ha, hcc⟩ := h4 (p + k) u hu
  simp only [Option.some.injEq, Addr.mk.injEq] at ha
  obtain ⟨rfl, rfl, _⟩ := ha
  exact ⟨b, off + p, rfl, by rw [Nat.add_assoc]; exact hcc⟩
theorem SlR.addr {w : World} {v : Value} {xs : List Value} (h : SlR w v xs) (h0 : 0 < xs.length) : ∃ b off c, v = .slice (some ⟨b, off, none⟩) xs.length c ∧ xs.length ≤ c ∧ c ≤ maxLen := by
  obtain ⟨a, c, h1, h2, h3, h4⟩ := h
  obtain ⟨b, off, rfl, _⟩ := h4 0 _ (List.getElem?_eq_getElem h0)
  exact ⟨b, off, c, h1, h2, h3⟩
/-- The row k of what the slice v reads comes back, in whatever world. -/
def RetIn (v : Value) (xs : List Nat) (m k : Nat) (e : Ending) : Prop := ∃ a c, e = .returned (.slice a m c) ∧ ∀ W, SlR W v (xs.map (Value.float .f32)) → SlR W (.slice a m c) ((rowOf xs m k).map (Value.float .f32))
theorem RetIn.mk {v : Value} {xs : List Nat} {m k : Nat} {a : Option Addr} {c : Nat} (h : ∀ W, SlR W v (xs.map (Value.float .f32)) → SlR W (.slice a m c) ((rowOf xs m k).map (Value.float .f32))) : RetIn v xs m k (.returned (.slice a m c)) := ⟨a, c, rfl, h⟩

set_option maxHeartbeats 1000000 in
theorem chRow_any (i : Int) (m k : Nat) (v : Value) (xs : List Nat) (w : World) (hv : SlR w v (xs.map (Value.float .f32))) (h1 : 1 ≤ m) (h2 : m ≤ 64) (h3 : k ≤ 64) (hk : (k + 1) * m ≤ xs.length) :
    Calls Try.prog 114 #[.agg #[.int .i64 i, .int .i64 m, v], .int .i64 k] w fun e w' => RetIn v xs m k e ∧ w' = w.alloc (.cells #[.int .i64 i, .int .i64 m, v] 59) := by
  have hkm : (k + 1) * m = k * m + m := by rw [Nat.add_mul, Nat.one_mul]
  obtain ⟨b, off, c, rfl, hnc, hcm⟩ := SlR.addr hv (by simp; omega)
  simp only [List.length_map] at hv hnc ⊢
  have hcm' : c ≤ 9223372036854775807 := by unfold maxLen at hcm; omega
  obtain ⟨p, hp⟩ : ∃ p : Nat, p = k * m := ⟨_, rfl⟩
  have hpb : p ≤ 4096 := by rw [hp]; exact Nat.le_trans (Nat.mul_le_mul h3 h2) (by decide)
  obtain ⟨q, hq⟩ : ∃ q : Nat, q = p + m := ⟨_, rfl⟩
  have HR : Hid (∀ W, SlR W (.slice (some ⟨b, off, none⟩) xs.length c) (xs.map (Value.float .f32)) → SlR W (.slice (some ⟨b, off + p, none⟩) m m) ((rowOf xs m k).map (Value.float .f32))) := by
    show ∀ W, _; intro W hvW; unfold rowOf; rw [← hp]; exact SlR.part hvW (by omega) (Nat.le_refl _) (by unfold maxLen; omega)
  have e1 : (k : Int) * (m : Int) = (p : Int) := by rw [hp]; simp
  have e2 : ((k : Int) + 1) * (m : Int) = (q : Int) := by rw [Int.add_mul, e1, Int.one_mul, hq]; simp
  have e3 : q - p = m := by omega
  have hne : ¬ q = p := by omega
  have hpq : p ≤ q := by omega
  have hqn : q ≤ xs.length := by omega
  have hqc : q ≤ c := by omega
  have hqb : q ≤ 5000 := by omega
  clear hp hq hkm hk hv hnc
  generalize xs.length = n at *
  go_enter Try.func114, Try.ntmps114
  go_wp2
  go_ret
  exact ⟨RetIn.mk HR.out, rfl⟩

set_option maxHeartbeats 1000000 in
theorem tbRow_any (i : Int) (m k : Nat) (v : Value) (xs : List Nat) (w : World) (hv : SlR w v (xs.map (Value.float .f32))) (h1 : 1 ≤ m) (h2 : m ≤ 64) (h3 : k ≤ 64) (hk : (k + 1) * m ≤ xs.length) :
    Calls Try.prog 82 #[.agg #[.int .i64 i, .int .i64 m, v], .int .i64 k] w fun e w' => RetIn v xs m k e ∧ w' = w.alloc (.cells #[.int .i64 i, .int .i64 m, v] 47) := by
  have hkm : (k + 1) * m = k * m + m := by rw [Nat.add_mul, Nat.one_mul]
  obtain ⟨b, off, c, rfl, hnc, hcm⟩ := SlR.addr hv (by simp; omega)
  simp only [List.length_map] at hv hnc ⊢
  have hcm' : c ≤ 9223372036854775807 := by unfold maxLen at hcm; omega
  obtain ⟨p, hp⟩ : ∃ p : Nat, p = k * m := ⟨_, rfl⟩
  have hpb : p ≤ 4096 := by rw [hp]; exact Nat.le_trans (Nat.mul_le_mul h3 h2) (by decide)
  obtain ⟨q, hq⟩ : ∃ q : Nat, q = p + m := ⟨_, rfl⟩
  have HR : Hid (∀ W, SlR W (.slice (some ⟨b, off, none⟩) xs.length c) (xs.map (Value.float .f32)) → SlR W (.slice (some ⟨b, off + p, none⟩) m m) ((rowOf xs m k).map (Value.float .f32))) := by
    show ∀ W, _; intro W hvW; unfold rowOf; rw [← hp]; exact SlR.part hvW (by omega) (Nat.le_refl _) (by unfold maxLen; omega)
  have e1 : (k : Int) * (m : Int) = (p : Int) := by rw [hp]; simp
  have e2 : ((k : Int) + 1) * (m : Int) = (q : Int) := by rw [Int.add_mul, e1, Int.one_mul, hq]; simp
  have e3 : q - p = m := by omega
  have hne : ¬ q = p := by omega
  have hpq : p ≤ q := by omega
  have hqn : q ≤ xs.length := by omega
  have hqc : q ≤ c := by omega
  have hqb : q ≤ 5000 := by omega
  clear hp hq hkm hk hv hnc
  generalize xs.length = n at *
  go_enter Try.func82, Try.ntmps82
  go_wp2
  go_ret
  exact ⟨RetIn.mk HR.out, rfl⟩

set_option maxHeartbeats 1000000 in
theorem l03Row_any (g : Nat) (m k : Nat) (v : Value) (xs : List Nat) (w : World) (hg1 : w.cell? ⟨g, 1, none⟩ = some (.int .i64 m)) (hg2 : w.cell? ⟨g, 2, none⟩ = some v) (hv : SlR w v (xs.map (Value.float .f32))) (h1 : 1 ≤ m) (h2 : m ≤ 64) (h3 : k ≤ 64) (hk : (k + 1) * m ≤ xs.length) :
    Calls Try.prog 138 #[.pointer (some ⟨g, 0, none⟩), .int .i64 k] w fun e w' => RetIn v xs m k e ∧ Qu w w' := by
  have hkm : (k + 1) * m = k * m + m := by rw [Nat.add_mul, Nat.one_mul]
  obtain ⟨b, off, c, rfl, hnc, hcm⟩ := SlR.addr hv (by simp; omega)
  simp only [List.length_map] at hv hnc hg2 ⊢
  have hcm' : c ≤ 9223372036854775807 := by unfold maxLen at hcm; omega
  obtain ⟨p, hp⟩ : ∃ p : Nat, p = k * m := ⟨_, rfl⟩
  have hpb : p ≤ 4096 := by rw [hp]; exact Nat.le_trans (Nat.mul_le_mul h3 h2) (by decide)
  obtain ⟨q, hq⟩ : ∃ q : Nat, q = p + m := ⟨_, rfl⟩
  have HR : Hid (∀ W, SlR W (.slice (some ⟨b, off, none⟩) xs.length c) (xs.map (Value.float .f32)) → SlR W (.slice (some ⟨b, off + p, none⟩) m (c - p)) ((rowOf xs m k).map (Value.float .f32))) := by
    show ∀ W, _; intro W hvW; unfold rowOf; rw [← hp]; exact SlR.part hvW (by omega) (by omega) (by unfold maxLen at hcm ⊢; omega)
  have e1 : (k : Int) * (m : Int) = (p : Int) := by rw [hp]; simp
  have e2 : ((k : Int) + 1) * (m : Int) = (q : Int) := by rw [Int.add_mul, e1, Int.one_mul, hq]; simp
  have e3 : q - p = m := by omega
  have hne : ¬ c = p := by omega
  have hpq : p ≤ q := by omega
  have hqn : q ≤ xs.length := by omega
  have hqc : q ≤ c := by omega
  have hqb : q ≤ 5000 := by omega
  have f1 : IntKind.i64.wrap ((k : Int) * (m : Int)) = (p : Int) := by rw [e1]; exact IntWalk.i64_in _ (by omega)
  have f2 : IntKind.i64.wrap ((k : Int) + 1) = (k : Int) + 1 := IntWalk.i64_in _ (by omega)
  have f3 : IntKind.i64.wrap (((k : Int) + 1) * (m : Int)) = (q : Int) := by rw [e2]; exact IntWalk.i64_in _ (by omega)
  have f4 : (0 : Int) ≤ (p : Int) := by omega
  have f5 : (p : Int) ≤ (q : Int) := by omega
  have f6 : (q : Int) ≤ (c : Int) := by omega
  clear hp hq hkm hk hv hnc
  generalize xs.length = n at *
  go_enter Try.func138, Try.ntmps138
  go_wp2
  go_quiet (fail)
  go_wp2
  go_ret
  exact ⟨RetIn.mk HR.out, _, rfl⟩

set_option maxHeartbeats 1000000 in
theorem l02At_any (g : Nat) (m k : Nat) (v : Value) (xs : List Nat) (w : World) (hg1 : w.cell? ⟨g, 1, none⟩ = some (.int .i64 m)) (hg2 : w.cell? ⟨g, 2, none⟩ = some v) (hv : SlR w v (xs.map (Value.float .f32))) (h1 : 1 ≤ m) (h2 : m ≤ 64) (h3 : k ≤ 64) (hk : (k + 1) * m ≤ xs.length) :
    Calls Try.prog 120 #[.pointer (some ⟨g, 0, none⟩), .int .i64 k] w fun e w' => RetIn v xs m k e ∧ Qu w w' := by
  have hkm : (k + 1) * m = k * m + m := by rw [Nat.add_mul, Nat.one_mul]
  obtain ⟨b, off, c, rfl, hnc, hcm⟩ := SlR.addr hv (by simp; omega)
  simp only [List.length_map] at hv hnc hg2 ⊢
  have hcm' : c ≤ 9223372036854775807 := by unfold maxLen at hcm; omega
  obtain ⟨p, hp⟩ : ∃ p : Nat, p = k * m := ⟨_, rfl⟩
  have hpb : p ≤ 4096 := by rw [hp]; exact Nat.le_trans (Nat.mul_le_mul h3 h2) (by decide)
  obtain ⟨q, hq⟩ : ∃ q : Nat, q = p + m := ⟨_, rfl⟩
  have HR : Hid (∀ W, SlR W (.slice (some ⟨b, off, none⟩) xs.length c) (xs.map (Value.float .f32)) → SlR W (.slice (some ⟨b, off + p, none⟩) m (c - p)) ((rowOf xs m k).map (Value.float .f32))) := by
    show ∀ W, _; intro W hvW; unfold rowOf; rw [← hp]; exact SlR.part hvW (by omega) (by omega) (by unfold maxLen at hcm ⊢; omega)
  have e1 : (k : Int) * (m : Int) = (p : Int) := by rw [hp]; simp
  have e2 : ((k : Int) + 1) * (m : Int) = (q : Int) := by rw [Int.add_mul, e1, Int.one_mul, hq]; simp
  have e3 : q - p = m := by omega
  have hne : ¬ c = p := by omega
  have hpq : p ≤ q := by omega
  have hqn : q ≤ xs.length := by omega
  have hqc : q ≤ c := by omega
  have hqb : q ≤ 5000 := by omega
  have f1 : IntKind.i64.wrap ((k : Int) * (m : Int)) = (p : Int) := by rw [e1]; exact IntWalk.i64_in _ (by omega)
  have f2 : IntKind.i64.wrap ((k : Int) + 1) = (k : Int) + 1 := IntWalk.i64_in _ (by omega)
  have f3 : IntKind.i64.wrap (((k : Int) + 1) * (m : Int)) = (q : Int) := by rw [e2]; exact IntWalk.i64_in _ (by omega)
  have f4 : (0 : Int) ≤ (p : Int) := by omega
  have f5 : (p : Int) ≤ (q : Int) := by omega
  have f6 : (q : Int) ≤ (c : Int) := by omega
  clear hp hq hkm hk hv hnc
  generalize xs.length = n at *
  go_enter Try.func120, Try.ntmps120
  go_wp2
  go_quiet (fail)
  go_wp2
  go_ret
  exact ⟨RetIn.mk HR.out, _, rfl⟩

set_option maxHeartbeats 1000000 in
theorem chRow_at (i : Int) (m k p b off n c : Nat) (w : World) (hp : p = k * m) (h1 : 1 ≤ m) (h2 : m ≤ 64) (h3 : k ≤ 64) (hk : p + m ≤ n) (hnc : n ≤ c) (hcm : c ≤ maxLen) :
    Calls Try.prog 114 #[.agg #[.int .i64 i, .int .i64 m, .slice (some ⟨b, off, none⟩) n c], .int .i64 k] w fun e w' => e = .returned (.slice (some ⟨b, off + p, none⟩) m m) ∧ w' = w.alloc (.cells #[.int .i64 i, .int .i64 m, .slice (some ⟨b, off, none⟩) n c] 59) := by
  have hcm' : c ≤ 9223372036854775807 := by unfold maxLen at hcm; omega
  have hpb : p ≤ 4096 := by rw [hp]; exact Nat.le_trans (Nat.mul_le_mul h3 h2) (by decide)
  obtain ⟨q, hq⟩ : ∃ q : Nat, q = p + m := ⟨_, rfl⟩
  have e1 : (k : Int) * (m : Int) = (p : Int) := by rw [hp]; simp
  have e2 : ((k : Int) + 1) * (m : Int) = (q : Int) := by rw [Int.add_mul, e1, Int.one_mul, hq]; simp
  have e3 : q - p = m := by omega
  have hne : ¬ q = p := by omega
  have hpq : p ≤ q := by omega
  have hqn : q ≤ n := by omega
  have hqc : q ≤ c := by omega
  have hqb : q ≤ 5000 := by omega
  clear hp hq hk
  go_enter Try.func114, Try.ntmps114
  go_wp2
  go_ret
  exact ⟨rfl, rfl⟩

set_option maxHeartbeats 1000000 in
theorem tbRow_at (i : Int) (m k p b off n c : Nat) (w : World) (hp : p = k * m) (h1 : 1 ≤ m) (h2 : m ≤ 64) (h3 : k ≤ 64) (hk : p + m ≤ n) (hnc : n ≤ c) (hcm : c ≤ maxLen) :
    Calls Try.prog 82 #[.agg #[.int .i64 i, .int .i64 m, .slice (some ⟨b, off, none⟩) n c], .int .i64 k] w fun e w' => e = .returned (.slice (some ⟨b, off + p, none⟩) m m) ∧ w' = w.alloc (.cells #[.int .i64 i, .int .i64 m, .slice (some ⟨b, off, none⟩) n c] 47) := by
  have hcm' : c ≤ 9223372036854775807 := by unfold maxLen at hcm; omega
  have hpb : p ≤ 4096 := by rw [hp]; exact Nat.le_trans (Nat.mul_le_mul h3 h2) (by decide)
  obtain ⟨q, hq⟩ : ∃ q : Nat, q = p + m := ⟨_, rfl⟩
  have e1 : (k : Int) * (m : Int) = (p : Int) := by rw [hp]; simp
  have e2 : ((k : Int) + 1) * (m : Int) = (q : Int) := by rw [Int.add_mul, e1, Int.one_mul, hq]; simp
  have e3 : q - p = m := by omega
  have hne : ¬ q = p := by omega
  have hpq : p ≤ q := by omega
  have hqn : q ≤ n := by omega
  have hqc : q ≤ c := by omega
  have hqb : q ≤ 5000 := by omega
  clear hp hq hk
  go_enter Try.func82, Try.ntmps82
  go_wp2
  go_ret
  exact ⟨rfl, rfl⟩

end Go.Proofs.Ytmocfnpbofeiiaa

/- Valid channels and tables. -/
namespace Go.Proofs.Ytmocfnpbofeiiaa
set_option linter.unusedSimpArgs false
set_option linter.unusedVariables false
open Go.RowKit

def validCh (i j : Int) (xs : List Nat) : Bool := inB i 1 8 && inB j 1 8 && decide ((xs.length : Int) = i * j) && (List.range i.toNat).all (fun k => rowB (rowOf xs j.toNat k))
def validTb (i j : Int) (xs : List Nat) : Bool := inB i 1 8 && inB j 1 8 && decide ((xs.length : Int) = i * j) && oneB xs
theorem nat_of_inB {i : Int} (h : inB i 1 8 = true) : ∃ a : Nat, i = (a : Int) ∧ 1 ≤ a ∧ a ≤ 8 := by
  obtain ⟨h1, h2⟩ := inB_true h
  exact ⟨i.toNat, by omega, by omega, by omega⟩
theorem validCh_nat {i j : Int} {xs : List Nat} (h : validCh i j xs = true) : ∃ a m : Nat, i = (a : Int) ∧ j = (m : Int) ∧ 1 ≤ a ∧ a ≤ 8 ∧ 1 ≤ m ∧ m ≤ 8 ∧ xs.length = a * m ∧ ∀ k, k < a → rowB (rowOf xs m k) = true := by
  unfold validCh at h
  simp only [Bool.and_eq_true, decide_eq_true_eq] at h
  obtain ⟨⟨⟨h1, h2⟩, h3⟩, h4⟩ := h
  obtain ⟨a, rfl, a1, a2⟩ := nat_of_inB h1
  obtain ⟨m, rfl, m1, m2⟩ := nat_of_inB h2
  refine ⟨a, m, rfl, rfl, a1, a2, m1, m2, by exact_mod_cast h3, fun k hk => ?_⟩
  rw [List.all_eq_true] at h4
  exact h4 k (by simpa using hk)
theorem validTb_nat {i j : Int} {xs : List Nat} (h : validTb i j xs = true) : ∃ a m : Nat, i = (a : Int) ∧ j = (m : Int) ∧ 1 ≤ a ∧ a ≤ 8 ∧ 1 ≤ m ∧ m ≤ 8 ∧ xs.length = a * m ∧ oneB xs = true := by
  unfold validTb at h
  simp only [Bool.and_eq_true, decide_eq_true_eq] at h
  obtain ⟨⟨⟨h1, h2⟩, h3⟩, h4⟩ := h
  obtain ⟨a, rfl, a1, a2⟩ := nat_of_inB h1
  obtain ⟨m, rfl, m1, m2⟩ := nat_of_inB h2
  exact ⟨a, m, rfl, rfl, a1, a2, m1, m2, by exact_mod_cast h3, h4⟩
theorem prod_le {a m : Nat} (ha : a ≤ 8) (hm : m ≤ 8) : a * m ≤ 64 := Nat.mul_le_mul ha hm
theorem row_le {a m k : Nat} (h : k < a) : (k + 1) * m ≤ a * m := Nat.mul_le_mul_right m h
theorem range_take_succ {a k : Nat} (p : Nat → Bool) : (List.range (k + 1)).all p = ((List.range k).all p && p k) := by
  rw [List.range_succ, List.all_append]; simp
theorem range_all_false {a k : Nat} {p : Nat → Bool} (hk : k < a) (h : p k = false) : (List.range a).all p = false := by
  rw [List.all_eq_false]; exact ⟨k, by simpa using hk, by simp [h]⟩

set_option maxHeartbeats 2000000 in
theorem implValidChannel_any (i j : Int) (v : Value) (xs : List Nat) (w : World) (hv : SlR w v (xs.map (Value.float .f32))) (hw : ∀ x ∈ xs, x < 4294967296) (hi : I64 i) (hj : I64 j) :
    Calls Try.prog 137 #[.agg #[.int .i64 i, .int .i64 j, v]] w fun e w' => e = .returned (.bool (validCh i j xs)) ∧ Below w.heap.size w w' := by
  have HW := Lib.hid hw
  have hb0 : Below w.heap.size w (w.alloc (.cells #[.int .i64 i, .int .i64 j, v] 59)) := by go_grown
  have hv1 := hv.below hb0
  clear hw
  cases h1 : inB i 1 8
  · have HV : Hid (validCh i j xs = false) := by show validCh i j xs = _; unfold validCh; rw [h1]; rfl
    have H1 := Lib.hid h1
    clear h1
    go_enter Try.func137, Try.ntmps137
    go_wp2_with (go_at_call 60; refine (within_any _ _ _ _).mono ?_; rw [H1.out]; rintro e w' ⟨rfl, rfl⟩)
    go_ret
    exact ⟨ret_bool HV.out.symm, hb0⟩
  · cases h2 : inB j 1 8
    · have HV : Hid (validCh i j xs = false) := by show validCh i j xs = _; unfold validCh; rw [h2]; simp
      have H1 := Lib.hid h1
      have H2 := Lib.hid h2
      clear h1 h2
      go_enter Try.func137, Try.ntmps137
      go_wp2_with (go_at_call 60; refine (within_any _ _ _ _).mono ?_; (first | rw [H1.out] | rw [H2.out]); rintro e w' ⟨rfl, rfl⟩)
      go_ret
      exact ⟨ret_bool HV.out.symm, hb0⟩
    · obtain ⟨a, rfl, a1, a2⟩ := nat_of_inB h1
      obtain ⟨m, rfl, m1, m2⟩ := nat_of_inB h2
      obtain ⟨p, hp⟩ : ∃ p, p = a * m := ⟨_, rfl⟩
      have hp64 : p ≤ 64 := by rw [hp]; exact prod_le a2 m2
      have e1 : (a : Int) * (m : Int) = (p : Int) := by rw [hp]; simp
      obtain ⟨ad, n, c, rfl, hnl, hnc, hcm, -⟩ := SlR.opened 0 hv
      have hcm' : n ≤ 9223372036854775807 := by unfold maxLen at hcm; omega
      have H1 := Lib.hid h1
      have H2 := Lib.hid h2
      by_cases h3 : n = p
      · have htest : ((n : Int) != (p : Int)) = false := by simp [h3]
        have HV : Hid (validCh a m xs = (List.range a).all (fun k => rowB (rowOf xs m k))) := by
          show validCh a m xs = _; unfold validCh; rw [h1, h2, e1, hnl, h3]; simp
        have HL : Hid (xs.length = a * m) := by show xs.length = _; omega
        clear h1 h2 h3 hp hnl
        go_enter Try.func137, Try.ntmps137
        go_wp2_with (go_at_call 60; refine (within_any _ _ _ _).mono ?_; (first | rw [H1.out] | rw [H2.out]); rintro e w' ⟨rfl, rfl⟩)
        go_loopw [27] (fun q wr => ∃ k : Nat, k ≤ a ∧ q = .int .i64 k ∧ (List.range k).all (fun k => rowB (rowOf xs m k)) = true ∧ Below (World.alloc w (.cells #[.int .i64 (a : Int), .int .i64 (m : Int), .slice ad n c] 59)).heap.size (World.alloc w (.cells #[.int .i64 (a : Int), .int .i64 (m : Int), .slice ad n c] 59)) wr) (fun q _ => a - (intOf q).toNat)
        case atStart => exact ⟨0, Nat.zero_le _, rfl, rfl, Below.refl _ _⟩
        case round =>
          obtain ⟨k, hk, rfl, hpre, hb⟩ := hrel
          have HP := Lib.hid hpre
          clear hpre
          by_cases hlt : k < a
          · have hvr := hv1.below hb
            obtain ⟨hc, -⟩ := bcell hb
            have c0 : wr.cell? ⟨w.heap.size, 0, none⟩ = some (.int .i64 (a : Int)) := by rw [hc _ _ (by simp)]; simp
            have c1 : wr.cell? ⟨w.heap.size, 1, none⟩ = some (.int .i64 (m : Int)) := by rw [hc _ _ (by simp)]; simp
            have c2 : wr.cell? ⟨w.heap.size, 2, none⟩ = some (.slice ad n c) := by rw [hc _ _ (by simp)]; simp
            clear hc
            have HK : Hid ((k + 1) * m ≤ xs.length) := by show (k + 1) * m ≤ _; rw [HL.out]; exact row_le hlt
            cases hr : rowB (rowOf xs m k)
            all_goals
              have HR := Lib.hid hr
              clear hr
              go_wp2_with (first | (go_at_call 114; refine (chRow_any _ m k _ xs _ hvr m1 (by omega) (by omega) HK.out).mono ?_; rintro e w2 ⟨⟨ar, cr, rfl, hsr⟩, rfl⟩) | (go_at_call 50; refine (isRow_any _ (rowOf xs m k) _ (hsr _ (hvr.below (by go_grown))) (fun x hx => HW.out x (rowOf_mem hx))).mono ?_; rw [HR.out]; rintro e w3 ⟨rfl, mq, rfl⟩))
            · go_ret
              refine ⟨ret_bool ?_, ?_⟩
              · rw [HV.out, range_all_false hlt HR.out]
              · exact hb0.trans ((below_drewN (Below.alloc hb hb.size _) _).mono (by simp))
            · go_roundw
              case rel => exact ⟨k + 1, by omega, by go_num, by rw [range_take_succ (a := a), HP.out, HR.out]; rfl, below_drewN (Below.alloc hb hb.size _) _⟩
              case measure => simp [intOf]; omega
          · obtain rfl : a = k := by omega
            obtain ⟨hc, -⟩ := bcell hb
            have c0 : wr.cell? ⟨w.heap.size, 0, none⟩ = some (.int .i64 (a : Int)) := by rw [hc _ _ (by simp)]; simp
            clear hc
            go_wp2
            go_ret
            exact ⟨ret_bool (by rw [HV.out, HP.out]), hb0.trans (hb.mono (by simp))⟩
      · have htest : ((n : Int) != (p : Int)) = true := by rw [bne_iff_ne]; omega
        have HV : Hid (validCh a m xs = false) := by
          show validCh a m xs = _; unfold validCh; rw [e1, hnl]; simp; omega
        clear h1 h2 h3 hp hnl
        go_enter Try.func137, Try.ntmps137
        go_wp2_with (go_at_call 60; refine (within_any _ _ _ _).mono ?_; (first | rw [H1.out] | rw [H2.out]); rintro e w' ⟨rfl, rfl⟩)
        go_ret
        exact ⟨ret_bool HV.out.symm, hb0⟩

set_option maxHeartbeats 2000000 in
theorem l03Is_any (g : Nat) (i j : Int) (v : Value) (xs : List Nat) (w : World) (hg0 : w.cell? ⟨g, 0, none⟩ = some (.int .i64 i)) (hg1 : w.cell? ⟨g, 1, none⟩ = some (.int .i64 j)) (hg2 : w.cell? ⟨g, 2, none⟩ = some v) (hv : SlR w v (xs.map (Value.float .f32))) (hw : ∀ x ∈ xs, x < 4294967296) :
    Calls Try.prog 115 #[.pointer (some ⟨g, 0, none⟩)] w fun e w' => e = .returned (.bool (validCh i j xs)) ∧ Qu w w' := by
  have HW := Lib.hid hw
  clear hw
  have hin : ∀ (z : Int) (b : Bool), inB z 1 8 = b → ∀ W : World, Calls Try.prog 117 #[.int .i64 z, .int .i64 1, .int .i64 8] W fun e w' => e = .returned (.bool b) ∧ w' = W := fun z b hz W => (l00In_any z 1 8 W).mono fun e w' ⟨q1, q2⟩ => ⟨by rw [q1, hz], q2.symm⟩
  cases h1 : inB i 1 8
  · have HV : Hid (validCh i j xs = false) := by show validCh i j xs = _; unfold validCh; rw [h1]; rfl
    have hi1 := hin i _ h1
    clear h1 hin
    go_enter Try.func115, Try.ntmps115
    go_wp2
    go_quiet ((go_at_call 117; exact Calls.quiet_of_same (hi1 _)))
    go_wp2
    go_ret
    exact ⟨ret_bool HV.out.symm, _, rfl⟩
  · cases h2 : inB j 1 8
    · have HV : Hid (validCh i j xs = false) := by show validCh i j xs = _; unfold validCh; rw [h2]; simp
      have hi1 := hin i _ h1
      have hi2 := hin j _ h2
      clear h1 h2 hin
      go_enter Try.func115, Try.ntmps115
      go_wp2
      go_quiet ((go_at_call 117; first | (with_reducible exact Calls.quiet_of_same (hi1 _)) | (with_reducible exact Calls.quiet_of_same (hi2 _))))
      go_wp2
      go_ret
      exact ⟨ret_bool HV.out.symm, _, rfl⟩
    · have hi1 := hin i _ h1
      have hi2 := hin j _ h2
      obtain ⟨a, rfl, a1, a2⟩ := nat_of_inB h1
      obtain ⟨m, rfl, m1, m2⟩ := nat_of_inB h2
      obtain ⟨p, hp⟩ : ∃ p, p = a * m := ⟨_, rfl⟩
      have hp64 : p ≤ 64 := by rw [hp]; exact prod_le a2 m2
      have e1 : (a : Int) * (m : Int) = (p : Int) := by rw [hp]; simp
      obtain ⟨ad, n, c, rfl, hnl, hnc, hcm, -⟩ := SlR.opened 0 hv
      have hcm' : n ≤ 9223372036854775807 := by unfold maxLen at hcm; omega
      have f1 : IntKind.i64.wrap ((a : Int) * (m : Int)) = (p : Int) := by rw [e1]; exact IntWalk.i64_in _ (by omega)
      by_cases h3 : n = p
      · have htest : ((n : Int) != (p : Int)) = false := by simp [h3]
        have HV : Hid (validCh a m xs = (List.range a).all (fun k => rowB (rowOf xs m k))) := by
          show validCh a m xs = _; unfold validCh; rw [h1, h2, e1, hnl, h3]; simp
        have HL : Hid (xs.length = a * m) := by show xs.length = _; omega
        clear h1 h2 h3 hp hnl hin
        go_enter Try.func115, Try.ntmps115
        go_wp2
        go_quiet ((go_at_call 117; first | (with_reducible exact Calls.quiet_of_same (hi1 _)) | (with_reducible exact Calls.quiet_of_same (hi2 _))))
        go_wp2
        go_loopw [3] (fun q wr => ∃ k : Nat, k ≤ a ∧ q = .int .i64 k ∧ (List.range k).all (fun k => rowB (rowOf xs m k)) = true ∧ Qu w wr) (fun q _ => a - (intOf q).toNat)
        case atStart => exact ⟨0, Nat.zero_le _, rfl, rfl, _, rfl⟩
        case round =>
          obtain ⟨k, hk, rfl, hpre, hqu⟩ := hrel
          have HP := Lib.hid hpre
          clear hpre hi1 hi2
          have hb := hqu.keep
          have c0 := cell_step hg0 hb
          have c1 := cell_step hg1 hb
          have c2 := cell_step hg2 hb
          have hvr := hv.below hb
          clear hb hg0 hg1 hg2
          by_cases hlt : k < a
          · have HK : Hid ((k + 1) * m ≤ xs.length) := by show (k + 1) * m ≤ _; rw [HL.out]; exact row_le hlt
            cases hr : rowB (rowOf xs m k)
            all_goals
              have HR := Lib.hid hr
              clear hr
              go_wp2_with (first | (go_at_call 138; refine (l03Row_any g m k _ xs _ c1 c2 hvr m1 (by omega) (by omega) HK.out).mono ?_; rintro e w2 ⟨⟨ar, cr, rfl, hsr⟩, mq, rfl⟩) | (go_at_call 116; refine (l02Row_any _ (rowOf xs m k) _ (hsr _ (hvr.below (Qu.keep ⟨_, rfl⟩))) (fun x hx => HW.out x (rowOf_mem hx))).mono ?_; rw [HR.out]; rintro e w3 ⟨rfl, mr, rfl⟩))
            · go_ret
              exact ⟨ret_bool (by rw [HV.out, range_all_false hlt HR.out]), hqu.drewN _⟩
            · go_roundw
              case rel => exact ⟨k + 1, by omega, by go_num, by rw [range_take_succ (a := a), HP.out, HR.out]; rfl, by first | exact (hqu.drewN _).drewN _ | exact hqu.drewN _⟩
              case measure => simp [intOf]; omega
          · obtain rfl : a = k := by omega
            go_wp2
            go_ret
            exact ⟨ret_bool (by rw [HV.out, HP.out]), hqu⟩
      · have htest : ((n : Int) != (p : Int)) = true := by rw [bne_iff_ne]; omega
        have HV : Hid (validCh a m xs = false) := by
          show validCh a m xs = _; unfold validCh; rw [e1, hnl]; simp; omega
        clear h1 h2 h3 hp hnl hin
        go_enter Try.func115, Try.ntmps115
        go_wp2
        go_quiet ((go_at_call 117; first | (with_reducible exact Calls.quiet_of_same (hi1 _)) | (with_reducible exact Calls.quiet_of_same (hi2 _))))
        go_wp2
        go_ret
        exact ⟨ret_bool HV.out.symm, _, rfl⟩

end Go.Proofs.Ytmocfnpbofeiiaa
