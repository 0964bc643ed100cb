/- The best tree with letters in order, plain: the table of costs and partings, and the depths that it gives. -/
import Derived.Test.YtcgenmkgdhaejaaCtr2
namespace Go.Proofs.Ytcgenmkgdhaejaa
set_option linter.unusedSimpArgs false
set_option linter.unusedVariables false
open Go.RowKit

abbrev Tb := Nat → Nat → Int × Nat
/-- The best parting of i to k among the first m. -/
def bst (T : Tb) (i k : Nat) : Nat → Int × Nat
  | 0 => (-1, 0)
  | m + 1 => if (bst T i k m).1 < 0 ∨ (T i (i + m)).1 + (T (i + m + 1) k).1 < (bst T i k m).1 then ((T i (i + m)).1 + (T (i + m + 1) k).1, i + m) else bst T i k m
/-- The sum of the m weights from i on. -/
def wsm (xs : List Int) (i : Nat) : Nat → Int
  | 0 => 0
  | m + 1 => wsm xs i m + xs[i + m]?.getD 0
def tupd (T : Tb) (i k : Nat) (v : Int × Nat) : Tb := fun a b => if a = i ∧ b = k then v else T a b
def cel (xs : List Int) (T : Tb) (i k : Nat) : Int × Nat := ((bst T i k (k - i)).1 + wsm xs i (k + 1 - i), (bst T i k (k - i)).2)
/-- The parts of one width, the first i of them. -/
def dpI (xs : List Int) (wide : Nat) (T : Tb) : Nat → Tb
  | 0 => T
  | i + 1 => tupd (dpI xs wide T i) i (i + wide) (cel xs (dpI xs wide T i) i (i + wide))
/-- The parts of the first m widths. -/
def dpW (xs : List Int) : Nat → Tb
  | 0 => fun _ _ => (0, 0)
  | m + 1 => dpI xs (m + 1) (dpW xs m) (xs.length - (m + 1))
/-- What a table keeps to. -/
def TInv (T : Tb) : Prop := ∀ a b, 0 ≤ (T a b).1 ∧ (T a b).1 ≤ 16000000 * ((b - a : Nat) : Int) ∧ ((T a b).2 = 0 ∨ (a ≤ (T a b).2 ∧ (T a b).2 < b))
theorem bst_bd {T : Tb} (h : TInv T) (i k m : Nat) (hm : i + m ≤ k) : -1 ≤ (bst T i k m).1 ∧ (bst T i k m).1 ≤ 16000000 * ((k - i - 1 : Nat) : Int) ∧ (0 < m → 0 ≤ (bst T i k m).1 ∧ i ≤ (bst T i k m).2 ∧ (bst T i k m).2 < k) := by
  induction m with
  | zero => exact ⟨by simp [bst], by simp [bst]; omega, by omega⟩
  | succ m ih =>
    obtain ⟨i1, i2, i3⟩ := ih (by omega)
    have h1 := h i (i + m)
    have h2 := h (i + m + 1) k
    unfold bst
    split
    · dsimp only
      refine ⟨by omega, by omega, fun _ => ⟨by omega, by omega, by omega⟩⟩
    · rename_i hc
      refine ⟨i1, i2, fun _ => ?_⟩
      by_cases hm0 : 0 < m
      · exact i3 hm0
      · exfalso
        have : m = 0 := by omega
        subst this
        exact hc (.inl (by simp [bst]))
theorem wsm_bd {xs : List Int} (h : xs.all (fun n => inB n 0 1000000) = true) (hl : xs.length ≤ 16) (i m : Nat) (hm : i + m ≤ xs.length) : 0 ≤ wsm xs i m ∧ wsm xs i m ≤ 1000000 * (m : Int) := by
  induction m with
  | zero => simp [wsm]
  | succ m ih =>
    obtain ⟨i1, i2⟩ := ih (by omega)
    have hx : i + m < xs.length := by omega
    have hb := inB_true (List.all_eq_true.1 h _ (List.getElem_mem hx))
    unfold wsm
    rw [List.getElem?_eq_getElem hx, Option.getD_some]
    omega
theorem tupd_inv {T : Tb} (h : TInv T) {xs : List Int} (ha : xs.all (fun n => inB n 0 1000000) = true) (hl : xs.length ≤ 16) (i k : Nat) (hik : i < k) (hk : k < xs.length) : TInv (tupd T i k (cel xs T i k)) := by
  intro a b
  unfold tupd
  split
  · rename_i e
    obtain ⟨rfl, rfl⟩ := e
    obtain ⟨b1, b2, b3⟩ := bst_bd h a b (b - a) (by omega)
    obtain ⟨c1, c2, c3⟩ := b3 (by omega)
    obtain ⟨s1, s2⟩ := wsm_bd ha hl a (b + 1 - a) (by omega)
    unfold cel
    dsimp only
    exact ⟨by omega, by omega, .inr ⟨c2, c3⟩⟩
  · exact h a b
theorem dpI_inv {xs : List Int} (ha : xs.all (fun n => inB n 0 1000000) = true) (hl : xs.length ≤ 16) {T : Tb} (h : TInv T) (wide : Nat) (hw : 0 < wide) (i : Nat) (hi : i + wide ≤ xs.length) : TInv (dpI xs wide T i) := by
  induction i with
  | zero => exact h
  | succ i ih => exact tupd_inv (ih (by omega)) ha hl _ _ (by omega) (by omega)
theorem dpW_inv {xs : List Int} (ha : xs.all (fun n => inB n 0 1000000) = true) (hl : xs.length ≤ 16) (m : Nat) (hm : m < xs.length) : TInv (dpW xs m) := by
  induction m with
  | zero => intro a b; exact ⟨by simp [dpW], by simp [dpW]; omega, .inl rfl⟩
  | succ m ih => exact dpI_inv ha hl (ih (by omega)) _ (by omega) _ (by omega)
theorem dpI_out {xs : List Int} {T : Tb} (wide i a b : Nat) (h : ¬ (a < i ∧ b = a + wide)) : dpI xs wide T i a b = T a b := by
  induction i with
  | zero => rfl
  | succ i ih =>
    show tupd _ _ _ _ a b = _
    unfold tupd
    rw [if_neg (fun e => h ⟨by omega, by omega⟩)]
    exact ih (fun e => h ⟨by omega, e.2⟩)
/-- What is not reckoned yet is zero. -/
theorem dpW_zero {xs : List Int} (m a b : Nat) (h : a + m < b) : dpW xs m a b = (0, 0) := by
  induction m with
  | zero => rfl
  | succ m ih =>
    show dpI _ _ _ _ a b = _
    rw [dpI_out _ _ _ _ (fun e => by omega)]
    exact ih (by omega)
theorem dpI_in {xs : List Int} {T : Tb} (wide i a : Nat) (h : a < i) : dpI xs wide T i a (a + wide) = cel xs (dpI xs wide T a) a (a + wide) := by
  induction i with
  | zero => omega
  | succ i ih =>
    show tupd _ _ _ _ a _ = _
    unfold tupd
    by_cases e : a = i
    · subst e; rw [if_pos ⟨rfl, rfl⟩]
    · rw [if_neg (fun x => e x.1)]; exact ih (by omega)
/-- Where a part is parted. -/
theorem dpW_at {xs : List Int} (ha : xs.all (fun n => inB n 0 1000000) = true) (hl : xs.length ≤ 16) (m a b : Nat) (hm : m < xs.length) (hab : a < b) (hb : b < xs.length) (h : b ≤ a + m) : a ≤ (dpW xs m a b).2 ∧ (dpW xs m a b).2 < b := by
  induction m with
  | zero => omega
  | succ m ih =>
    show _ ≤ (dpI _ _ _ _ a b).2 ∧ (dpI _ _ _ _ a b).2 < _
    by_cases e : b = a + (m + 1)
    · subst e
      rw [dpI_in _ _ _ (by omega)]
      obtain ⟨-, -, b3⟩ := bst_bd (dpI_inv ha hl (dpW_inv ha hl m (by omega)) (m + 1) (by omega) a (by omega)) a (a + (m + 1)) (a + (m + 1) - a) (by omega)
      exact (b3 (by omega)).2
    · rw [dpI_out _ _ _ _ (fun x => e x.2)]
      exact ih (by omega) (by omega)
/-- The letters from i on made one deeper: the first m of them. -/
def incR (l : List Int) (i : Nat) : Nat → List Int
  | 0 => l
  | m + 1 => (incR l i m).set (i + m) ((incR l i m)[i + m]?.getD 0 + 1)
/-- Letters i to k made deeper by a table of partings. -/
def deep (T : Tb) : Nat → Nat → Nat → List Int → List Int
  | 0, _, _, l => l
  | f + 1, i, k, l => if i = k then l else deep T f ((T i k).2 + 1) k (deep T f i (T i k).2 (incR l i (k + 1 - i)))
theorem incR_length (l : List Int) (i m : Nat) : (incR l i m).length = l.length := by
  induction m with
  | zero => rfl
  | succ m ih => simp [incR, ih]
theorem deep_length (T : Tb) (f i k : Nat) (l : List Int) : (deep T f i k l).length = l.length := by
  induction f generalizing i k l with
  | zero => rfl
  | succ f ih =>
    unfold deep
    split
    · rfl
    · rw [ih, ih, incR_length]
theorem set_bd {l : List Int} {B : Int} (h : ∀ x ∈ l, 0 ≤ x ∧ x ≤ B) (j : Nat) (v : Int) (hv : 0 ≤ v ∧ v ≤ B) : ∀ x ∈ l.set j v, 0 ≤ x ∧ x ≤ B := by
  intro x hx
  rcases List.mem_or_eq_of_mem_set hx with h1 | h1
  · exact h x h1
  · rw [h1]; exact hv
theorem get_bd {l : List Int} {B : Int} (hB : 0 ≤ B) (h : ∀ x ∈ l, 0 ≤ x ∧ x ≤ B) (j : Nat) : 0 ≤ l[j]?.getD 0 ∧ l[j]?.getD 0 ≤ B := by
  by_cases hj : j < l.length
  · rw [List.getElem?_eq_getElem hj]; exact h _ (List.getElem_mem hj)
  · rw [List.getElem?_eq_none (by omega)]; exact ⟨by simp, by simpa using hB⟩
theorem incR_get (l : List Int) (i m j : Nat) (h : i + m ≤ l.length) : (incR l i m)[j]?.getD 0 = l[j]?.getD 0 + if i ≤ j ∧ j < i + m then 1 else 0 := by
  induction m with
  | zero => rw [if_neg (by omega)]; simp [incR]
  | succ m ih =>
    have hi := ih (by omega)
    unfold incR
    by_cases e : j = i + m
    · subst e
      rw [List.getElem?_set_self (by rw [incR_length]; omega), Option.getD_some, hi, if_neg (by omega), if_pos (by omega)]
      omega
    · rw [List.getElem?_set_ne (by omega), hi]
      by_cases e2 : i ≤ j ∧ j < i + m
      · rw [if_pos e2, if_pos (by omega)]
      · rw [if_neg e2, if_neg (by omega)]
theorem incR_bd {l : List Int} {B : Int} (hB : 0 ≤ B) (h : ∀ x ∈ l, 0 ≤ x ∧ x ≤ B) (i m : Nat) (hm : i + m ≤ l.length) : ∀ x ∈ incR l i m, 0 ≤ x ∧ x ≤ B + 1 := by
  intro x hx
  obtain ⟨j, hj, rfl⟩ := List.mem_iff_getElem.1 hx
  have h1 := incR_get l i m j hm
  rw [List.getElem?_eq_getElem hj, Option.getD_some] at h1
  have h2 := get_bd hB h j
  rw [h1]
  split <;> omega
theorem deep_bd (T : Tb) (f : Nat) : ∀ (i k : Nat) (l : List Int) (B : Int), 0 ≤ B → k < l.length → (∀ x ∈ l, 0 ≤ x ∧ x ≤ B) → (∀ a b, a < b → b < l.length → a ≤ (T a b).2 ∧ (T a b).2 < b) → i ≤ k → ∀ x ∈ deep T f i k l, 0 ≤ x ∧ x ≤ B + 2 ^ f - 1 := by
  induction f with
  | zero => intro i k l B hB hk h _ _ x hx; have := h x hx; simp; omega
  | succ f ih =>
    intro i k l B hB hk h hT hik x hx
    have hp : (1 : Int) ≤ 2 ^ f := by have := Nat.one_le_two_pow (n := f); have e : ((2 : Int) ^ f) = ((2 ^ f : Nat) : Int) := by simp
                                      rw [e]; omega
    unfold deep at hx
    rw [Int.pow_succ]
    by_cases e : i = k
    · rw [if_pos e] at hx
      have := h x hx; omega
    · rw [if_neg e] at hx
      obtain ⟨t1, t2⟩ := hT i k (by omega) hk
      have h1 := incR_bd hB h i (k + 1 - i) (by omega)
      have h2 := ih i (T i k).2 _ (B + 1) (by omega) (by rw [incR_length]; omega) h1 (by rw [incR_length]; exact hT) t1
      have h3 := ih ((T i k).2 + 1) k _ (B + 1 + 2 ^ f - 1) (by omega) (by rw [deep_length, incR_length]; omega) h2 (by rw [deep_length, incR_length]; exact hT) (by omega) x hx
      omega

end Go.Proofs.Ytcgenmkgdhaejaa
