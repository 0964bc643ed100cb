/- Channels that are fair, plain: numbers sorted upwards and downwards tell the same. -/
import Derived.Test.YtjobgobeiiakgaaMevP
import Derived.Test.YtjobgobeiiakgaaVld
import Derived.Test.YtjobgobeiiakgaaTrn
namespace Go.Proofs.Ytjobgobeiiakgaa
set_option linter.unusedSimpArgs false
set_option linter.unusedVariables false
open Go.RowKit
/-- A word without its sign. -/
def abW (x : Nat) : Nat := x % 2147483648
/-- The word at place x is less than the one at place y. -/
def ltW (f : Nat → Nat) (x y : Nat) : Bool := decide (f x % 2147483648 < f y % 2147483648)
theorem ltW_sw (f : Nat → Nat) : SW (ltW f) :=
  ⟨fun _ => by simp [ltW], fun x y z h1 h2 => by simp [ltW] at *; omega, fun x y h => by simp [ltW] at *; omega⟩
/-- The words, the least first. -/
def ascF (xs : List Nat) : List Nat := (ordX (ltW (wat xs)) id xs.length).map (wat xs)
theorem ascF_length (xs : List Nat) : (ascF xs).length = xs.length := by unfold ascF; rw [List.length_map, ordX_length]
theorem ordX_pw {lt : Nat → Nat → Bool} (hsw : SW lt) (n : Nat) : (ordX lt id n).Pairwise (RR lt) := by
  rw [List.pairwise_iff_getElem]
  intro i j hi hj hij
  have := ordX_srt hsw id (fun _ _ h => h) n i j hij hj
  rw [List.getElem?_eq_getElem hi, List.getElem?_eq_getElem hj] at this
  exact this
theorem ordX_map_perm (lt : Nat → Nat → Bool) (xs : List Nat) : ((ordX lt id xs.length).map (wat xs)).Perm xs := by
  have := (ordX_perm lt id xs.length).map (wat xs)
  rwa [List.map_id, map_wat] at this
theorem falF_pw (xs : List Nat) : ((falF xs).map abW).Pairwise (fun x y => y ≤ x) := by
  unfold falF
  rw [List.map_map, List.pairwise_map]
  refine (ordX_pw (gtW_sw _) _).imp (fun {a b} h => ?_)
  have := h.1
  simp only [gtW, decide_eq_false_iff_not] at this
  show abW (wat xs b) ≤ abW (wat xs a)
  unfold abW
  omega
theorem ascF_pw (xs : List Nat) : ((ascF xs).map abW).Pairwise (fun x y => x ≤ y) := by
  unfold ascF
  rw [List.map_map, List.pairwise_map]
  refine (ordX_pw (ltW_sw _) _).imp (fun {a b} h => ?_)
  have := h.1
  simp only [ltW, decide_eq_false_iff_not] at this
  show abW (wat xs a) ≤ abW (wat xs b)
  unfold abW
  omega
/-- The same numbers in any order, but for signs of zeros. -/
def alk (a b : List Nat) : Bool := decide ((falF a).map abW = (falF b).map abW)
theorem alk_asc (a b : List Nat) : alk a b = decide ((ascF a).map abW = (ascF b).map abW) := by
  unfold alk
  have pa := (ordX_map_perm (gtW (wat a)) a).map abW
  have pb := (ordX_map_perm (gtW (wat b)) b).map abW
  have qa := (ordX_map_perm (ltW (wat a)) a).map abW
  have qb := (ordX_map_perm (ltW (wat b)) b).map abW
  have e : (falF a).map abW = (falF b).map abW ↔ (ascF a).map abW = (ascF b).map abW := by
    constructor
    · intro h
      refine List.Perm.eq_of_pairwise (le := fun x y : Nat => x ≤ y) (fun x y _ _ p q => Nat.le_antisymm p q) (ascF_pw a) (ascF_pw b) (qa.trans (pa.symm.trans ?_))
      exact (h ▸ List.Perm.refl _ : ((falF a).map abW).Perm ((falF b).map abW)).trans (pb.trans qb.symm)
    · intro h
      refine List.Perm.eq_of_pairwise (le := fun x y : Nat => y ≤ x) (fun x y _ _ p q => Nat.le_antisymm q p) (falF_pw a) (falF_pw b) (pa.trans (qa.symm.trans ?_))
      exact (h ▸ List.Perm.refl _ : ((ascF a).map abW).Perm ((ascF b).map abW)).trans (qb.trans pb.symm)
  by_cases h : (falF a).map abW = (falF b).map abW
  · rw [decide_eq_true h, decide_eq_true (e.1 h)]
  · rw [decide_eq_false h, decide_eq_false (fun x => h (e.2 x))]
theorem alk_self (a : List Nat) : alk a a = true := decide_eq_true rfl
/-- Lists that differ at a place. -/
theorem map_ne {u v : List Nat} {k : Nat} (h1 : k < u.length) (h2 : k < v.length) (h : abW (u[k]?.getD 0) ≠ abW (v[k]?.getD 0)) : u.map abW ≠ v.map abW := by
  intro e
  have := congrArg (fun l : List Nat => l[k]?) e
  simp only [List.getElem?_map] at this
  rw [List.getElem?_eq_getElem h1, List.getElem?_eq_getElem h2] at this h
  exact h (Option.some.inj this)
theorem map_eq_of {u v : List Nat} {n : Nat} (h1 : u.length = n) (h2 : v.length = n) (h : ∀ k, k < n → abW (u[k]?.getD 0) = abW (v[k]?.getD 0)) : u.map abW = v.map abW := by
  refine List.ext_getElem (by simp [h1, h2]) (fun k hk1 hk2 => ?_)
  have h3 : k < u.length := by simpa using hk1
  have h4 : k < v.length := by simpa using hk2
  have := h k (by omega)
  rw [List.getElem?_eq_getElem h3, List.getElem?_eq_getElem h4] at this
  simpa using this
/-- The row c of a table turned is the column c. -/
theorem rowOf_turn (xs : List Nat) (m a c : Nat) (hc : c < m) : rowOf (turnOf xs m a m) a c = colOf xs m c a := by
  have h1 : ∀ k, c < k → k ≤ m → rowOf (turnOf xs m a k) a c = colOf xs m c a := by
    intro k
    induction k with
    | zero => intro h _; omega
    | succ k ih =>
      intro hk hkm
      rw [turnOf_succ]
      have hl := turnOf_length xs m a k
      unfold rowOf at ih ⊢
      by_cases he : c = k
      · subst he
        rw [List.drop_append_of_le_length (by omega), List.drop_of_length_le (by omega), List.nil_append]
        rw [List.take_of_length_le (by rw [colOf_length]; omega)]
      · have hck : (c + 1) * a ≤ k * a := Nat.mul_le_mul_right a (by omega)
        rw [Nat.add_mul, Nat.one_mul] at hck
        rw [List.drop_append_of_le_length (by omega), List.take_append_of_le_length (by rw [List.length_drop]; omega)]
        exact ih (by omega) (by omega)
  exact h1 m hc (Nat.le_refl _)
/-- All of the rows 1 .. n are like the first one. -/
def alAll (f : Nat → List Nat) (n : Nat) : Bool := (List.range n).all (fun k => alk (f 0) (f k))
theorem alAll_no {f : Nat → List Nat} {n k : Nat} (hk : k < n) (h : alk (f 0) (f k) = false) : alAll f n = false := by
  unfold alAll; rw [List.all_eq_false]; exact ⟨k, List.mem_range.2 hk, by rw [h]; simp⟩
theorem alAll_yes {f : Nat → List Nat} {n : Nat} (h : ∀ k, k < n → alk (f 0) (f k) = true) : alAll f n = true := by
  unfold alAll; rw [List.all_eq_true]; exact fun k hk => h k (List.mem_range.1 hk)
def out_IsFair (i j : Int) (xs : List Nat) : Bool × Bool := if validCh i j xs then (alAll (fun k => rowOf xs j.toNat k) i.toNat && alAll (fun k => colOf xs j.toNat k i.toNat) j.toNat, true) else (false, false)
theorem insR_at (lt : Nat → Nat → Bool) (n k : Nat) : insR lt 0 (List.range n) (k + 1 - 1) = bub lt 0 (insR lt 0 (List.range n) (k - 1)) k := by
  cases k with
  | zero => rfl
  | succ k => rw [Nat.add_sub_cancel, Nat.add_sub_cancel, insR, Nat.zero_add, Nat.add_comm 1 k]

end Go.Proofs.Ytjobgobeiiakgaa
