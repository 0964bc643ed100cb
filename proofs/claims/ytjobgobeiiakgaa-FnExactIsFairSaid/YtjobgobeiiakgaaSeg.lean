/- Parts of a list exchanged, plain. -/
import Derived.Test.YtjobgobeiiakgaaMrg
namespace Go.Proofs.Ytjobgobeiiakgaa
set_option linter.unusedSimpArgs false
set_option linter.unusedVariables false
open Go.RowKit

/-- Two places exchanged. -/
def sw2 (l : List Nat) (i j : Nat) : List Nat := (l.set i (l[j]?.getD 0)).set j (l[i]?.getD 0)
theorem sw2_length (l : List Nat) (i j : Nat) : (sw2 l i j).length = l.length := by simp [sw2]
theorem sw2_seg (P M S : List Nat) (x y : Nat) (i j : Nat) (hi : i = P.length) (hj : j = P.length + 1 + M.length) : sw2 (P ++ x :: (M ++ y :: S)) i j = P ++ y :: (M ++ x :: S) := by
  subst hi hj
  unfold sw2
  have e1 : (P ++ x :: (M ++ y :: S))[P.length]?.getD 0 = x := by simp
  have e2 : (P ++ x :: (M ++ y :: S))[P.length + 1 + M.length]?.getD 0 = y := by
    rw [List.getElem?_append_right (by omega), show P.length + 1 + M.length - P.length = M.length + 1 by omega, List.getElem?_cons_succ, List.getElem?_append_right (by omega)]
    simp
  rw [e1, e2, List.set_append_right _ _ (by omega), Nat.sub_self, List.set_cons_zero, List.set_append_right _ _ (by omega), show P.length + 1 + M.length - P.length = M.length + 1 by omega, List.set_cons_succ, List.set_append_right _ _ (by omega), Nat.sub_self, List.set_cons_zero]
/-- The places a, a + 1, .. exchanged with b, b + 1, ..: the first k of them. -/
def swpR (l : List Nat) (a b : Nat) : Nat → List Nat
  | 0 => l
  | k + 1 => sw2 (swpR l a b k) (a + k) (b + k)
theorem swpR_length (l : List Nat) (a b k : Nat) : (swpR l a b k).length = l.length := by
  induction k with
  | zero => rfl
  | succ k ih => rw [swpR, sw2_length, ih]
theorem swpR_seg (P X M Y S : List Nat) (n : Nat) (hX : X.length = n) (hY : Y.length = n) (a b : Nat) (ha : a = P.length) (hb : b = P.length + n + M.length) (k : Nat) (hk : k ≤ n) :
    swpR (P ++ X ++ M ++ Y ++ S) a b k = P ++ (Y.take k ++ X.drop k) ++ M ++ (X.take k ++ Y.drop k) ++ S := by
  induction k with
  | zero => simp [swpR]
  | succ k ih =>
    rw [swpR, ih (by omega)]
    have hx : X.drop k = X[k] :: X.drop (k + 1) := List.drop_eq_getElem_cons (by omega)
    have hy : Y.drop k = Y[k] :: Y.drop (k + 1) := List.drop_eq_getElem_cons (by omega)
    have tx : X.take (k + 1) = X.take k ++ [X[k]] := List.take_succ_eq_append_getElem (by omega)
    have ty : Y.take (k + 1) = Y.take k ++ [Y[k]] := List.take_succ_eq_append_getElem (by omega)
    rw [hx, hy, tx, ty]
    have h := sw2_seg (P ++ Y.take k) (X.drop (k + 1) ++ M ++ X.take k) (Y.drop (k + 1) ++ S) X[k] Y[k] (a + k) (b + k) (by simp; omega) (by simp; omega)
    simp only [List.append_assoc, List.cons_append, List.nil_append] at h ⊢
    exact h
theorem swpR_all (P X M Y S : List Nat) (n : Nat) (hX : X.length = n) (hY : Y.length = n) (a b : Nat) (ha : a = P.length) (hb : b = P.length + n + M.length) :
    swpR (P ++ X ++ M ++ Y ++ S) a b n = P ++ Y ++ M ++ X ++ S := by
  rw [swpR_seg P X M Y S n hX hY a b ha hb n (Nat.le_refl _), List.take_of_length_le (by omega), List.take_of_length_le (by omega), List.drop_of_length_le (by omega), List.drop_of_length_le (by omega)]
  simp
/-- What is left to do of an exchange of two parts that lie side by side: i before m, j from m on. -/
def Rot (l : List Nat) (m i j : Nat) (g : List Nat) : Prop := ∃ P X Y S, l = P ++ X ++ Y ++ S ∧ P.length + X.length = m ∧ X.length = i ∧ Y.length = j ∧ g = P ++ Y ++ X ++ S
theorem Rot.big {l g : List Nat} {m i j : Nat} (h : Rot l m i j g) (hij : j < i) : Rot (swpR l (m - i) m j) m (i - j) j g := by
  obtain ⟨P, X, Y, S, rfl, h1, h2, h3, rfl⟩ := h
  have e := swpR_all P (X.take j) (X.drop j) Y S j (by simp; omega) h3 (m - i) m (by omega) (by simp; omega)
  rw [List.append_assoc P, List.take_append_drop] at e
  rw [e]
  exact ⟨P ++ Y, X.drop j, X.take j, S, rfl, by simp; omega, by simp; omega, by simp; omega, by simp [List.append_assoc]⟩
theorem Rot.small {l g : List Nat} {m i j : Nat} (h : Rot l m i j g) (hij : i < j) : Rot (swpR l (m - i) (m + j - i) i) m i (j - i) g := by
  obtain ⟨P, X, Y, S, rfl, h1, h2, h3, rfl⟩ := h
  have e := swpR_all P X (Y.take (j - i)) (Y.drop (j - i)) S i h2 (by simp; omega) (m - i) (m + j - i) (by omega) (by simp; omega)
  have e1 : P ++ X ++ Y ++ S = P ++ X ++ Y.take (j - i) ++ Y.drop (j - i) ++ S := by rw [List.append_assoc (P ++ X) (Y.take (j - i)), List.take_append_drop]
  rw [e1, e]
  refine ⟨P, Y.drop (j - i), Y.take (j - i), X ++ S, by simp [List.append_assoc], by simp; omega, by simp; omega, by simp; omega, ?_⟩
  simp only [List.append_assoc]
  rw [← List.append_assoc (Y.take _), List.take_append_drop]
theorem Rot.done {l g : List Nat} {m i : Nat} (h : Rot l m i i g) : swpR l (m - i) m i = g := by
  obtain ⟨P, X, Y, S, rfl, h1, h2, h3, rfl⟩ := h
  have e := swpR_all P X [] Y S i h2 h3 (m - i) m (by omega) (by simp; omega)
  rw [List.append_nil] at e
  simpa using e

end Go.Proofs.Ytjobgobeiiakgaa
