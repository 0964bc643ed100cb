/- The table of a row through a channel, plain. -/
import Derived.Test.YtmocfnpbofeiiaaMAsx
import Derived.Test.YtmocfnpbofeiiaaMFit
import Derived.Test.YtmocfnpbofeiiaaMSid
namespace Go.Proofs.Ytmocfnpbofeiiaa
set_option linter.unusedSimpArgs false
set_option linter.unusedVariables false
open Go.RowKit

/-- What comes of letter r: its first c products. -/
def jRow (xs rs : List Nat) (m r c : Nat) : List Nat := (List.range c).map (fun k => fA .mul .f32 (rs[r]?.getD 0) (xs[r * m + k]?.getD 0))
def jOf (xs rs : List Nat) (m r : Nat) : List Nat := (List.range r).flatMap (fun q => jRow xs rs m q m)
theorem jRow_succ (xs rs : List Nat) (m r c : Nat) : jRow xs rs m r (c + 1) = jRow xs rs m r c ++ [fA .mul .f32 (rs[r]?.getD 0) (xs[r * m + c]?.getD 0)] := by simp [jRow, List.range_succ]
theorem jRow_length (xs rs : List Nat) (m r c : Nat) : (jRow xs rs m r c).length = c := by simp [jRow]
theorem jOf_succ (xs rs : List Nat) (m r : Nat) : jOf xs rs m (r + 1) = jOf xs rs m r ++ jRow xs rs m r m := by simp [jOf, List.range_succ]
theorem jOf_length (xs rs : List Nat) (m r : Nat) : (jOf xs rs m r).length = r * m := by
  induction r with
  | zero => simp [jOf]
  | succ k ih => rw [jOf_succ, List.length_append, ih, jRow_length, Nat.add_mul, Nat.one_mul]
theorem fl_cells {w : World} {v : Value} {xs : List Nat} {m : Nat} (hv : SlR w v (xs.map (Value.float .f32))) (hm : xs.length = m) (h : 1 ≤ m) : ∃ b off c, v = .slice (some ⟨b, off, none⟩) m c ∧ m ≤ c ∧ c ≤ maxLen ∧ b < w.heap.size ∧ ∀ k, k < m → w.cell? ⟨b, off + k, none⟩ = some (.float .f32 (xs[k]?.getD 0)) := by
  obtain ⟨a, n, c, rfl, hnl, hnc, hcm, hcell⟩ := SlR.opened 0 hv
  obtain rfl : n = m := by omega
  obtain ⟨b, off, rfl, -, hbl⟩ := hcell 0 h
  refine ⟨b, off, c, rfl, hnc, hcm, hbl, fun k hk => ?_⟩
  obtain ⟨b1, o1, h1, h2, _⟩ := hcell k hk
  simp only [Option.some.injEq, Addr.mk.injEq] at h1
  obtain ⟨rfl, rfl, _⟩ := h1
  rw [List.getD_eq_getElem?_getD] at h2
  exact h2

theorem ch_all {a m : Nat} {xs : List Nat} (hl : xs.length = a * m) (hr : ∀ k, k < a → rowB (rowOf xs m k) = true) : ∀ x ∈ xs, Ch x := by
  intro x hx
  obtain ⟨q, hq, rfl⟩ := List.mem_iff_getElem.1 hx
  have hm : 0 < m := by
    rcases Nat.eq_zero_or_pos m with h | h
    · subst h; rw [hl] at hq; simp at hq
    · exact h
  have h1 : q / m < a := Nat.div_lt_of_lt_mul (by rw [Nat.mul_comm, ← hl]; exact hq)
  have h := ch_el hl hr h1 (Nat.mod_lt q hm)
  rw [Nat.div_add_mod' q m, List.getElem?_eq_getElem hq] at h
  exact h
theorem jOf_mem {xs rs : List Nat} {m a x : Nat} (h : x ∈ jOf xs rs m a) : ∃ q k, q < a ∧ k < m ∧ x = fA .mul .f32 (rs[q]?.getD 0) (xs[q * m + k]?.getD 0) := by
  unfold jOf jRow at h
  obtain ⟨q, hq, h2⟩ := List.mem_flatMap.1 h
  obtain ⟨k, hk, rfl⟩ := List.mem_map.1 h2
  exact ⟨q, k, List.mem_range.1 hq, List.mem_range.1 hk, rfl⟩
theorem jOf_lt {a m : Nat} {xs rs : List Nat} (hl : xs.length = a * m) (hr : ∀ k, k < a → rowB (rowOf xs m k) = true) (hrs : ∀ x ∈ rs, Ch x) (hrl : rs.length = a) : ∀ x ∈ jOf xs rs m a, x < 4294967296 := by
  intro x hx
  obtain ⟨q, k, hq, hk, rfl⟩ := jOf_mem hx
  exact fA_lt (mul_ch (get_pn hrs (by omega)) (ch_el hl hr hq hk)).1
def jnOk (i j : Int) (xs rs : List Nat) : Bool := fitB i j xs rs && validTb i j (jOf xs rs j.toNat i.toNat)
def out_JointOf (i j : Int) (xs rs : List Nat) : Int × Int × List Nat × Bool := if jnOk i j xs rs then (i, j, jOf xs rs j.toNat i.toNat, true) else (0, 0, [], false)
theorem outJN_no {i j : Int} {xs rs : List Nat} (h : jnOk i j xs rs = false) : out_JointOf i j xs rs = (0, 0, [], false) := by unfold out_JointOf; rw [h]; rfl
theorem outJN_yes {a m : Nat} {xs rs : List Nat} (h : jnOk a m xs rs = true) : out_JointOf a m xs rs = ((a : Int), (m : Int), jOf xs rs m a, true) := by unfold out_JointOf; rw [h, Int.toNat_natCast, Int.toNat_natCast]; rfl
theorem fitB_nat {i j : Int} {xs rs : List Nat} (h : fitB i j xs rs = true) : ∃ a m : Nat, i = (a : Int) ∧ j = (m : Int) ∧ 1 ≤ a ∧ a ≤ 8 ∧ 1 ≤ m ∧ m ≤ 8 ∧ xs.length = a * m ∧ (∀ k, k < a → rowB (rowOf xs m k) = true) ∧ rs.length = a ∧ ∀ x ∈ rs, Ch x := by
  unfold fitB at h
  simp only [Bool.and_eq_true, decide_eq_true_eq] at h
  obtain ⟨a, m, rfl, rfl, a1, a2, m1, m2, hl, hr⟩ := validCh_nat h.1.1
  exact ⟨a, m, rfl, rfl, a1, a2, m1, m2, hl, hr, by have := h.2; omega, oneB_ch (rowB_one h.1.2).2.2⟩
theorem len_JointOf (i j : Int) (_ : I64 i) (_ : I64 j) (xs : List Nat) (_ : ∀ x ∈ xs, x < 4294967296) (_ : xs.length ≤ 1048576) (rs : List Nat) (_ : ∀ x ∈ rs, x < 4294967296) (_ : rs.length ≤ 1048576) : (out_JointOf i j xs rs).2.2.1.length ≤ 1048576 := by
  unfold out_JointOf
  split
  · rename_i h
    unfold jnOk at h
    rw [Bool.and_eq_true] at h
    obtain ⟨a, m, rfl, rfl, _, a2, _, m2, _⟩ := fitB_nat h.1
    show (jOf _ _ _ _).length ≤ _
    rw [jOf_length, Int.toNat_natCast, Int.toNat_natCast]
    have := prod_le a2 m2
    omega
  · exact Nat.zero_le _

end Go.Proofs.Ytmocfnpbofeiiaa
