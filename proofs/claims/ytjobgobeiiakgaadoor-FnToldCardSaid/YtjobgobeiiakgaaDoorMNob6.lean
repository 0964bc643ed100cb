/- Numbers read back from their bits: the reference's helpers. -/
import Derived.Test.YtjobgobeiiakgaaDoorMNobE
import Derived.IntWalk
namespace Go.Proofs.YtjobgobeiiakgaaDoor
set_option linter.unusedSimpArgs false
set_option linter.unusedVariables false
open Go.RowKit

end Go.Proofs.YtjobgobeiiakgaaDoor

/- Numbers read back from their bits: the reference's guess. -/
namespace Go.Proofs.YtjobgobeiiakgaaDoor
set_option linter.unusedSimpArgs false
set_option linter.unusedVariables false
open Go.RowKit

end Go.Proofs.YtjobgobeiiakgaaDoor

/- Numbers read back from their bits: the sums of Fibonacci numbers, plain. -/
namespace Go.Proofs.YtjobgobeiiakgaaDoor
set_option linter.unusedSimpArgs false
set_option linter.unusedVariables false
open Go.RowKit

def fsum (i : Nat) : List UInt8 → Nat
  | [] => 0
  | c :: r => (if c = 49 then fibN i else 0) + fsum (i + 1) r
theorem fsum_snoc (c : UInt8) : ∀ (l : List UInt8) (i : Nat), fsum i (l ++ [c]) = fsum i l + (if c = 49 then fibN (i + l.length) else 0)
  | [], i => by show (if c = 49 then fibN i else 0) + 0 = 0 + _; simp
  | x :: r, i => by
    show (if x = 49 then fibN i else 0) + fsum (i + 1) (r ++ [c]) = (if x = 49 then fibN i else 0) + fsum (i + 1) r + _
    rw [fsum_snoc c r (i + 1), List.length_cons, show i + 1 + r.length = i + (r.length + 1) by omega]
    omega
theorem fib_pos : ∀ n, 1 ≤ fibN n ∧ fibN n ≤ fibN (n + 1) ∧ fibN (n + 1) ≤ 2 * fibN n
  | 0 => by decide
  | 1 => by decide
  | n + 2 => by
    obtain ⟨a1, a2, a3⟩ := fib_pos (n + 1)
    obtain ⟨b1, b2, b3⟩ := fib_pos n
    have e1 : fibN (n + 2) = fibN (n + 1) + fibN n := rfl
    have e2 : fibN (n + 2 + 1) = fibN (n + 2) + fibN (n + 1) := rfl
    omega
theorem fib_mono {m : Nat} : ∀ {n : Nat}, m ≤ n → fibN m ≤ fibN n
  | 0, h => by rw [show m = 0 by omega]; exact Nat.le_refl _
  | n + 1, h => by
    by_cases e : m = n + 1
    · rw [e]; exact Nat.le_refl _
    · exact Nat.le_trans (fib_mono (by omega)) (fib_pos n).2.1
theorem fib41 : fibN 41 = 433494437 := rfl
/-- No two ones are neighbours. -/
def Nadj (l : List UInt8) : Prop := ∀ i : Nat, l[i]? = some 49 → l[i + 1]? ≠ some 49
theorem nadj_snoc {l : List UInt8} {c : UInt8} (h : Nadj l) (hc : c = 49 → ∀ k : Nat, l.length = k + 1 → l[k]? ≠ some 49) : Nadj (l ++ [c]) := by
  intro i h1 h2
  have hi : i + 1 < (l ++ [c]).length := (List.getElem?_eq_some_iff.1 h2).1
  rw [List.length_append, List.length_cons, List.length_nil] at hi
  rw [List.getElem?_append_left (by omega)] at h1
  by_cases hl : i + 1 < l.length
  · rw [List.getElem?_append_left hl] at h2
    exact h i h1 h2
  · rw [List.getElem?_append_right (by omega), show i + 1 - l.length = 0 by omega] at h2
    simp only [List.getElem?_cons_zero, Option.some.injEq] at h2
    exact hc h2 i (by omega) h1
theorem gr_last {k r : Nat} (h : r < fibN k) : (gr (k + 1) r)[k]? = some 48 := by
  unfold gr
  rw [if_neg (by omega), List.getElem?_append_right (by rw [gr_length]; exact Nat.le_refl _), gr_length, Nat.sub_self]; rfl
theorem gr_last1 {k r : Nat} (h : fibN k ≤ r) : (gr (k + 1) r)[k]? = some 49 := by
  unfold gr
  rw [if_pos h, List.getElem?_append_right (by rw [gr_length]; exact Nat.le_refl _), gr_length, Nat.sub_self]; rfl
theorem gr_ok : ∀ k r, r < fibN k → fsum 0 (gr k r) = r ∧ Nadj (gr k r)
  | 0, r, h => by
    have e : fibN 0 = 1 := rfl
    refine ⟨by show 0 = r; omega, fun i h1 => ?_⟩
    rw [show gr 0 r = [] from rfl] at h1
    simp at h1
  | k + 1, r, h => by
    have h3 := (fib_pos k).2.2
    by_cases hk : fibN k ≤ r
    · obtain ⟨g1, g2⟩ := gr_ok k (r - fibN k) (by omega)
      have e : gr (k + 1) r = gr k (r - fibN k) ++ [49] := by conv => lhs; unfold gr; rw [if_pos hk]
      rw [e]
      refine ⟨by rw [fsum_snoc, g1, gr_length, if_pos rfl, Nat.zero_add]; omega, nadj_snoc g2 fun _ j hj => ?_⟩
      rw [gr_length] at hj
      subst hj
      rw [gr_last]
      · decide
      · have e2 : fibN (j + 1 + 1) = fibN (j + 1) + fibN j := rfl
        omega
    · obtain ⟨g1, g2⟩ := gr_ok k r (by omega)
      have e : gr (k + 1) r = gr k r ++ [48] := by conv => lhs; unfold gr; rw [if_neg hk]
      rw [e]
      exact ⟨by rw [fsum_snoc, g1, if_neg (by decide)]; rfl, nadj_snoc g2 fun hc => absurd hc (by decide)⟩
theorem fm_ok : ∀ f m n, n < fibN (m + f) → n < fibN (fm f m n) ∧ m ≤ fm f m n ∧ (fm f m n = m ∨ fibN (fm f m n - 1) ≤ n)
  | 0, m, n, h => ⟨h, Nat.le_refl _, .inl rfl⟩
  | f + 1, m, n, h => by
    unfold fm
    by_cases hm : fibN m ≤ n
    · rw [if_pos hm]
      obtain ⟨a, b, c⟩ := fm_ok f (m + 1) n (by rw [show m + 1 + f = m + (f + 1) by omega]; exact h)
      refine ⟨a, by omega, .inr ?_⟩
      rcases c with c | c
      · rw [c]; exact hm
      · exact c
    · rw [if_neg hm]; exact ⟨by omega, Nat.le_refl _, .inl rfl⟩
/-- A text begins with the digits of n, the last one at K. -/
structure FibAt (r : List UInt8) (K n : Nat) : Prop where
  top : K ≤ 29
  len : K + 1 < r.length
  one : r[K]? = some 49
  two : r[K + 1]? = some 49
  apart : ∀ i : Nat, i < K → r[i]? = some 49 → r[i + 1]? ≠ some 49
  sum : fsum 0 (r.take (K + 1)) = n
  big : fibN K ≤ n
theorem fib_at {n : Nat} (h1 : 1 ≤ n) (hn : n ≤ 1000000) (t : List UInt8) : ∃ K, FibAt (fibT n ++ t) K n := by
  obtain ⟨a, b, c⟩ := fm_ok 40 1 n (by rw [show 1 + 40 = 41 from rfl, fib41]; omega)
  have ht : fibTop n = fm 40 1 n := rfl
  rw [← ht] at a b c
  obtain ⟨K, hK⟩ : ∃ K, fibTop n = K + 1 := ⟨fibTop n - 1, by omega⟩
  have e0 : fibN 0 = 1 := rfl
  have hb : fibN K ≤ n := by
    rcases c with c | c
    · rw [show K = 0 by omega]; omega
    · rw [hK, show K + 1 - 1 = K from rfl] at c; exact c
  have h29 : K ≤ 29 := by
    rcases Nat.lt_or_ge K 30 with h | h
    · omega
    · have := fib_mono h; rw [fib30] at this; omega
  rw [hK] at a
  obtain ⟨g1, g2⟩ := gr_ok (K + 1) n a
  have hl := gr_length (K + 1) n
  have hT : fibT n ++ t = gr (K + 1) n ++ 49 :: t := by unfold fibT; rw [hK, List.append_assoc]; rfl
  rw [hT]
  have hget : ∀ i, i < K + 1 → (gr (K + 1) n ++ 49 :: t)[i]? = (gr (K + 1) n)[i]? := fun i hi => List.getElem?_append_left (by omega)
  refine ⟨K, h29, by rw [List.length_append, List.length_cons]; omega, by rw [hget K (by omega)]; exact gr_last1 hb, ?_, fun i hi => ?_, ?_, hb⟩
  · rw [List.getElem?_append_right (by omega), hl, Nat.sub_self]; rfl
  · rw [hget i (by omega), hget (i + 1) (by omega)]; exact g2 i
  · have := take_app (gr (K + 1) n) (49 :: t)
    rw [hl] at this
    rw [this, g1]
/-- The number at the beginning of a text, and no other one. -/
theorem cand3 (k : Int) {r : List UInt8} {v : Int} (h : ∀ K n, 1 ≤ n → n ≤ 1000000 → FibAt r K n → v = (n : Int)) : Cand 3 k r v := by
  intro n h1 hp
  obtain ⟨m, t, rfl, m1, m2, rfl⟩ := num_r (T := fibT) h1 hp
  obtain ⟨K, hK⟩ := fib_at m1 m2 t
  exact h K m m1 m2 hK

end Go.Proofs.YtjobgobeiiakgaaDoor

/- Numbers read back from their bits: the reference's guess at Fibonacci numbers. -/
namespace Go.Proofs.YtjobgobeiiakgaaDoor
set_option linter.unusedSimpArgs false
set_option linter.unusedVariables false
open Go.RowKit
theorem fib_one {r : List UInt8} {K n K' n' : Nat} (h : FibAt r K n) (h' : FibAt r K' n') : n = n' := by
  have e : K = K' := by
    rcases Nat.lt_trichotomy K K' with a | a | a
    · exact absurd h.two (h'.apart K a h.one)
    · exact a
    · exact absurd h'.two (h.apart K' a h'.one)
  subst e
  rw [← h.sum, ← h'.sum]
theorem cand3_of (k : Int) {r : List UInt8} {K n : Nat} (h : FibAt r K n) : Cand 3 k r (n : Int) := cand3 k fun _ _ _ _ h' => by rw [fib_one h h']
theorem cand3_no (k : Int) {r : List UInt8} (h : ¬ ∃ K n, n ≤ 1000000 ∧ FibAt r K n) (v : Int) : Cand 3 k r v := cand3 k fun K n _ h2 h' => absurd ⟨K, n, h2, h'⟩ h
theorem fsum_take {r : List UInt8} {j : Nat} {c : UInt8} (h : r[j]? = some c) : fsum 0 (r.take (j + 1)) = fsum 0 (r.take j) + (if c = 49 then fibN j else 0) := by
  obtain ⟨hj, hc⟩ := List.getElem?_eq_some_iff.1 h
  rw [List.take_add_one, h, Option.toList_some, fsum_snoc, List.length_take, Nat.zero_add, Nat.min_eq_left (by omega)]
theorem fsum_mono (r : List UInt8) (j : Nat) : ∀ d, fsum 0 (r.take j) ≤ fsum 0 (r.take (j + d))
  | 0 => Nat.le_refl _
  | d + 1 => by
    refine Nat.le_trans (fsum_mono r j d) ?_
    by_cases h : j + d < r.length
    · have := fsum_take (List.getElem?_eq_getElem h)
      rw [show j + (d + 1) = j + d + 1 by omega, this]; omega
    · rw [List.take_of_length_le (by omega), List.take_of_length_le (by omega)]; exact Nat.le_refl _

end Go.Proofs.YtjobgobeiiakgaaDoor
