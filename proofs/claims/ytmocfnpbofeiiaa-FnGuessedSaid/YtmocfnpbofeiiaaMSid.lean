/- Channels side by side: the program's part. -/
import Derived.Test.YtmocfnpbofeiiaaMLff
import Derived.Deep.RegionHeld3
namespace Go.Proofs.Ytmocfnpbofeiiaa
set_option linter.unusedSimpArgs false
set_option linter.unusedVariables false
open Go.RowKit

/-- An entry of the channel of pairs. -/
def fSide (xs ys : List Nat) (a2 m1 m2 i k : Nat) : Nat := fA .mul .f32 (xs[(i / a2) * m1 + k / m2]?.getD 0) (ys[(i % a2) * m2 + k % m2]?.getD 0)
def sideOk (i j : Int) (xs : List Nat) (i2 j2 : Int) (ys : List Nat) : Bool := validCh i j xs && validCh i2 j2 ys && decide (i * i2 ≤ 8) && decide (j * j2 ≤ 8)
def out_SideChannels (i j : Int) (xs : List Nat) (i2 j2 : Int) (ys : List Nat) : Int × Int × List Nat × Bool :=
  if sideOk i j xs i2 j2 ys then outCh (i * i2) (j * j2) (chA (fSide xs ys i2.toNat j.toNat j2.toNat) (j * j2).toNat (i * i2).toNat) else (0, 0, [], false)
theorem ch_el {a m : Nat} {xs : List Nat} (hl : xs.length = a * m) (hr : ∀ k, k < a → rowB (rowOf xs m k) = true) {r c : Nat} (h1 : r < a) (h2 : c < m) : Ch (xs[r * m + c]?.getD 0) := by
  have hle : (r + 1) * m ≤ xs.length := by rw [hl]; exact row_le h1
  rw [← rowOf_getElem? (xs := xs) h2]
  exact get_pn (oneB_ch (rowB_one (hr r h1)).2.2) (by rw [rowOf_length hle]; exact h2)
theorem side_nat {i j : Int} {xs : List Nat} {i2 j2 : Int} {ys : List Nat} (h : sideOk i j xs i2 j2 ys = true) : validCh i j xs = true ∧ validCh i2 j2 ys = true ∧ i * i2 ≤ 8 ∧ j * j2 ≤ 8 := by
  unfold sideOk at h
  simp only [Bool.and_eq_true, decide_eq_true_eq] at h
  exact ⟨h.1.1.1, h.1.1.2, h.1.2, h.2⟩
theorem len_SideChannels (i j : Int) (_ : I64 i) (_ : I64 j) (xs : List Nat) (_ : ∀ x ∈ xs, x < 4294967296) (_ : xs.length ≤ 1048576) (i2 j2 : Int) (_ : I64 i2) (_ : I64 j2) (ys : List Nat) (_ : ∀ x ∈ ys, x < 4294967296) (_ : ys.length ≤ 1048576) : (out_SideChannels i j xs i2 j2 ys).2.2.1.length ≤ 1048576 := by
  unfold out_SideChannels
  split
  · rename_i h
    obtain ⟨h1, h2, h3, h4⟩ := side_nat h
    refine outCh_len _ _ _ ?_
    rw [chA_length]
    have : (i * i2).toNat * (j * j2).toNat ≤ 8 * 8 := Nat.mul_le_mul (by omega) (by omega)
    omega
  · exact Nat.zero_le _
theorem fSide_lt {a1 m1 a2 m2 : Nat} {xs ys : List Nat} (hl : xs.length = a1 * m1) (hr : ∀ k, k < a1 → rowB (rowOf xs m1 k) = true) (hl2 : ys.length = a2 * m2) (hr2 : ∀ k, k < a2 → rowB (rowOf ys m2 k) = true) {i k : Nat} (hi : i < a1 * a2) (hk : k < m1 * m2) :
    Ch (xs[(i / a2) * m1 + k / m2]?.getD 0) ∧ Ch (ys[(i % a2) * m2 + k % m2]?.getD 0) ∧ fSide xs ys a2 m1 m2 i k < 4294967296 := by
  have p2 : 0 < a2 := by rcases Nat.eq_zero_or_pos a2 with h | h
                         · subst h; simp at hi
                         · exact h
  have p3 : 0 < m2 := by rcases Nat.eq_zero_or_pos m2 with h | h
                         · subst h; simp at hk
                         · exact h
  have c1 := ch_el hl hr (r := i / a2) (c := k / m2) (Nat.div_lt_of_lt_mul (by rw [Nat.mul_comm]; exact hi)) (Nat.div_lt_of_lt_mul (by rw [Nat.mul_comm]; exact hk))
  have c2 := ch_el hl2 hr2 (r := i % a2) (c := k % m2) (Nat.mod_lt _ p2) (Nat.mod_lt _ p3)
  exact ⟨c1, c2, fA_lt (mul_ch c1 c2).1⟩
theorem chRow_bl (i : Int) (m k p b off n c : Nat) (w : World) (hp : p = k * m) (h1 : 1 ≤ m) (h2 : m ≤ 64) (h3 : k ≤ 64) (hk : p + m ≤ n) (hnc : n ≤ c) (hcm : c ≤ maxLen) :
    Calls Try.prog 114 #[.agg #[.int .i64 i, .int .i64 m, .slice (some ⟨b, off, none⟩) n c], .int .i64 k] w fun e w' => e = .returned (.slice (some ⟨b, off + p, none⟩) m m) ∧ Below w.heap.size w w' :=
  (chRow_at i m k p b off n c w hp h1 h2 h3 hk hnc hcm).mono (by rintro e w' ⟨rfl, rfl⟩; exact ⟨rfl, by go_grown⟩)


end Go.Proofs.Ytmocfnpbofeiiaa
