/- Insertion sorts, plain: what the loops make of a list, and why the outcome is in order. -/
import Derived.Test.YtjobgobeiiakgaaBase
namespace Go.Proofs.Ytjobgobeiiakgaa
set_option linter.unusedSimpArgs false
set_option linter.unusedVariables false
open Go.RowKit

/-- Two neighbours exchanged: places j and j + 1. -/
def swp (l : List Nat) (j : Nat) : List Nat := (l.set (j + 1) (l[j]?.getD 0)).set j (l[j + 1]?.getD 0)
/-- The element at a place goes down, not below place a, while it is less than the one before it. -/
def bub (lt : Nat → Nat → Bool) (a : Nat) : List Nat → Nat → List Nat
  | l, 0 => l
  | l, j + 1 => if a ≤ j ∧ lt (l[j + 1]?.getD 0) (l[j]?.getD 0) = true then bub lt a (swp l j) j else l
/-- The first k rounds of an insertion sort from place a on. -/
def insR (lt : Nat → Nat → Bool) (a : Nat) (l : List Nat) : Nat → List Nat
  | 0 => l
  | k + 1 => bub lt a (insR lt a l k) (a + 1 + k)
/-- Elements taken in one after another. -/
def ordX (lt : Nat → Nat → Bool) (f : Nat → Nat) : Nat → List Nat
  | 0 => []
  | i + 1 => bub lt 0 (ordX lt f i ++ [f i]) i
theorem swp_length (l : List Nat) (j : Nat) : (swp l j).length = l.length := by simp [swp]
theorem swp_get (l : List Nat) (j a : Nat) (h : j + 1 < l.length) : (swp l j)[a]?.getD 0 = if a = j then l[j + 1]?.getD 0 else if a = j + 1 then l[j]?.getD 0 else l[a]?.getD 0 := by
  unfold swp
  by_cases h1 : a = j
  · subst h1
    rw [if_pos rfl, List.getElem?_set_self (by simp; omega), Option.getD_some]
  · rw [if_neg h1, List.getElem?_set_ne (by omega)]
    by_cases h2 : a = j + 1
    · subst h2
      rw [if_pos rfl, List.getElem?_set_self (by omega), Option.getD_some]
    · rw [if_neg h2, List.getElem?_set_ne (by omega)]
theorem swp_append (l r : List Nat) (j : Nat) (h : j + 1 < l.length) : swp (l ++ r) j = swp l j ++ r := by
  unfold swp
  rw [List.getElem?_append_left (by omega), List.getElem?_append_left (by omega), List.set_append_left _ _ (by omega), List.set_append_left _ _ (by simp; omega)]
theorem swp_prepend (p l : List Nat) (j : Nat) : swp (p ++ l) (p.length + j) = p ++ swp l j := by
  unfold swp
  rw [List.getElem?_append_right (by omega), List.getElem?_append_right (by omega), List.set_append_right _ _ (by omega), List.set_append_right _ _ (by omega),
    show p.length + j + 1 - p.length = j + 1 by omega, show p.length + j - p.length = j by omega]
theorem bub_length (lt : Nat → Nat → Bool) (a : Nat) (l : List Nat) (j : Nat) : (bub lt a l j).length = l.length := by
  induction j generalizing l with
  | zero => rfl
  | succ j ih => unfold bub; split; · rw [ih, swp_length]
                 · rfl
theorem bub_append (lt : Nat → Nat → Bool) (a : Nat) (l r : List Nat) (j : Nat) (h : j < l.length) : bub lt a (l ++ r) j = bub lt a l j ++ r := by
  induction j generalizing l with
  | zero => rfl
  | succ j ih =>
    unfold bub
    rw [List.getElem?_append_left (by omega), List.getElem?_append_left (by omega)]
    split
    · rw [swp_append _ _ _ h, ih _ (by rw [swp_length]; omega)]
    · rfl
theorem bub_prepend (lt : Nat → Nat → Bool) (p l : List Nat) (j : Nat) : bub lt p.length (p ++ l) (p.length + j) = p ++ bub lt 0 l j := by
  induction j generalizing l with
  | zero =>
    cases hp : p.length with
    | zero => rfl
    | succ k => unfold bub; rw [if_neg (by omega)]
  | succ j ih =>
    rw [← Nat.add_assoc]
    unfold bub
    rw [List.getElem?_append_right (by omega), List.getElem?_append_right (by omega), show p.length + j + 1 - p.length = j + 1 by omega, show p.length + j - p.length = j by omega]
    by_cases h : lt (l[j + 1]?.getD 0) (l[j]?.getD 0) = true
    · rw [if_pos ⟨by omega, h⟩, if_pos ⟨by omega, h⟩, swp_prepend, ih]
    · rw [if_neg (fun x => h x.2), if_neg (fun x => h x.2)]
theorem insR_length (lt : Nat → Nat → Bool) (a : Nat) (l : List Nat) (k : Nat) : (insR lt a l k).length = l.length := by
  induction k with
  | zero => rfl
  | succ k ih => rw [insR, bub_length, ih]
theorem insR_seg (lt : Nat → Nat → Bool) (p l r : List Nat) (k : Nat) (h : k < l.length) : insR lt p.length (p ++ l ++ r) k = p ++ insR lt 0 l k ++ r := by
  induction k with
  | zero => rfl
  | succ k ih =>
    rw [insR, ih (by omega), insR, bub_append _ _ _ _ _ (by simp [insR_length]; omega), show p.length + 1 + k = p.length + (0 + 1 + k) by omega, bub_prepend]
theorem swp_perm (l : List Nat) (j : Nat) (h : j + 1 < l.length) : (swp l j).Perm l := by
  have e : l = l.take j ++ (l[j] :: l[j + 1] :: l.drop (j + 2)) := by
    conv => lhs; rw [← List.take_append_drop j l, List.drop_eq_getElem_cons (by omega), List.drop_eq_getElem_cons (by omega)]
  have e2 : swp l j = l.take j ++ (l[j + 1] :: l[j] :: l.drop (j + 2)) := by
    have hl : (l.take j).length = j := by simp; omega
    have h3 := swp_prepend (l.take j) (l[j] :: l[j + 1] :: l.drop (j + 2)) 0
    rw [← e, hl, Nat.add_zero] at h3
    rw [h3]
    rfl
  rw [e2]
  conv => rhs; rw [e]
  exact List.Perm.append_left _ (List.Perm.swap ..)
theorem bub_perm (lt : Nat → Nat → Bool) (a : Nat) (l : List Nat) (j : Nat) (h : j < l.length) : (bub lt a l j).Perm l := by
  induction j generalizing l with
  | zero => exact List.Perm.refl _
  | succ j ih => unfold bub; split; · exact (ih _ (by rw [swp_length]; omega)).trans (swp_perm l j h)
                 · exact List.Perm.refl _
theorem ordX_length (lt : Nat → Nat → Bool) (f : Nat → Nat) (n : Nat) : (ordX lt f n).length = n := by
  induction n with
  | zero => rfl
  | succ n ih => unfold ordX; rw [bub_length]; simp [ih]
theorem ordX_perm (lt : Nat → Nat → Bool) (f : Nat → Nat) (n : Nat) : (ordX lt f n).Perm ((List.range n).map f) := by
  induction n with
  | zero => exact List.Perm.refl _
  | succ n ih =>
    unfold ordX
    refine (bub_perm _ _ _ _ (by simp [ordX_length])).trans ?_
    rw [List.range_succ, List.map_append]
    exact ih.append_right _
theorem ordX_mem {lt : Nat → Nat → Bool} {f : Nat → Nat} {n x : Nat} (h : x ∈ ordX lt f n) : ∃ i, i < n ∧ x = f i := by
  obtain ⟨i, hi, rfl⟩ := List.mem_map.1 ((ordX_perm lt f n).mem_iff.1 h)
  exact ⟨i, List.mem_range.1 hi, rfl⟩
theorem ordX_lt (lt : Nat → Nat → Bool) (n k : Nat) (h : k < n) : (ordX lt id n)[k]?.getD 0 < n := by
  have hl : k < (ordX lt id n).length := by rw [ordX_length]; exact h
  rw [List.getElem?_eq_getElem hl, Option.getD_some]
  obtain ⟨i, hi, e⟩ := ordX_mem (List.getElem_mem hl)
  rw [e]; exact hi
/-- The rounds of an insertion sort over a whole list. -/
theorem insR_ordX (lt : Nat → Nat → Bool) (l : List Nat) (k : Nat) (h : k < l.length) : insR lt 0 l k = ordX lt (fun i => l[i]?.getD 0) (k + 1) ++ l.drop (k + 1) := by
  induction k with
  | zero =>
    show l = _
    cases l with
    | nil => simp at h
    | cons a l => rfl
  | succ k ih =>
    have e : l.drop (k + 1) = [l[k + 1]?.getD 0] ++ l.drop (k + 2) := by
      rw [List.drop_eq_getElem_cons h, List.getElem?_eq_getElem h]; rfl
    rw [insR, ih (by omega), e, ← List.append_assoc, bub_append _ _ _ _ _ (by simp [ordX_length]; omega), show 0 + 1 + k = k + 1 by omega]
    rfl

/-- A relation that holds from each element to each later one. -/
def Srt (R : Nat → Nat → Prop) (l : List Nat) : Prop := ∀ a b, a < b → b < l.length → R (l[a]?.getD 0) (l[b]?.getD 0)
theorem bub_srt {R : Nat → Nat → Prop} (ht : ∀ x y z, R x y → R y z → R x z) (lt : Nat → Nat → Bool) (l : List Nat) (j : Nat) (hj : j < l.length) (h1 : ∀ a b, a < b → b < l.length → a ≠ j → b ≠ j → R (l[a]?.getD 0) (l[b]?.getD 0)) (h2 : ∀ b, j < b → b < l.length → R (l[j]?.getD 0) (l[b]?.getD 0))
    (h3 : ∀ a, a < j → (lt (l[j]?.getD 0) (l[a]?.getD 0) = true → R (l[j]?.getD 0) (l[a]?.getD 0)) ∧ (lt (l[j]?.getD 0) (l[a]?.getD 0) = false → R (l[a]?.getD 0) (l[j]?.getD 0))) :
    Srt R (bub lt 0 l j) := by
  induction j generalizing l with
  | zero =>
    intro a b hab hb
    by_cases h : a = 0
    · subst h; exact h2 b hab hb
    · exact h1 a b hab hb h (by omega)
  | succ j ih =>
    unfold bub
    by_cases hlt : lt (l[j + 1]?.getD 0) (l[j]?.getD 0) = true
    · rw [if_pos ⟨Nat.zero_le _, hlt⟩]
      refine ih _ (by rw [swp_length]; omega) ?_ ?_ ?_
      · intro a b hab hb ha hb'
        rw [swp_length] at hb
        rw [swp_get _ _ _ hj, swp_get _ _ _ hj, if_neg ha, if_neg hb']
        by_cases e1 : a = j + 1
        · rw [if_pos e1, if_neg (by omega)]
          exact h1 j b (by omega) hb (by omega) (by omega)
        · rw [if_neg e1]
          by_cases e2 : b = j + 1
          · rw [if_pos e2]
            exact h1 a j (by omega) (by omega) e1 (by omega)
          · rw [if_neg e2]
            exact h1 a b hab hb e1 e2
      · intro b hjb hb
        rw [swp_length] at hb
        rw [swp_get _ _ _ hj, swp_get _ _ _ hj, if_pos rfl, if_neg (by omega)]
        by_cases e2 : b = j + 1
        · rw [if_pos e2]; exact (h3 j (by omega)).1 hlt
        · rw [if_neg e2]; exact h2 b (by omega) hb
      · intro a ha
        rw [swp_get _ _ _ hj, swp_get _ _ _ hj, if_pos rfl, if_neg (by omega), if_neg (by omega)]
        exact h3 a (by omega)
    · rw [if_neg (fun x => hlt x.2)]
      have hr := (h3 j (by omega)).2 (by simpa using hlt)
      intro a b hab hb
      by_cases e2 : b = j + 1
      · subst e2
        by_cases e3 : a = j
        · subst e3; exact hr
        · exact ht _ _ _ (h1 a j (by omega) (by omega) (by omega) (by omega)) hr
      · by_cases e1 : a = j + 1
        · subst e1; exact h2 b hab hb
        · exact h1 a b hab hb e1 e2
/-- A strict order on keys. -/
structure SW (lt : Nat → Nat → Bool) : Prop where
  irr : ∀ x, lt x x = false
  neg : ∀ x y z, lt x y = false → lt y z = false → lt x z = false
  asy : ∀ x y, lt x y = true → lt y x = false
/-- Before: less, or not greater and with a smaller number. -/
def RR (lt : Nat → Nat → Bool) (x y : Nat) : Prop := lt y x = false ∧ (lt x y = true ∨ x < y)
theorem RR.trans {lt : Nat → Nat → Bool} (h : SW lt) (x y z : Nat) (a : RR lt x y) (b : RR lt y z) : RR lt x z := by
  refine ⟨h.neg _ _ _ b.1 a.1, ?_⟩
  by_cases hc : lt x z = true
  · exact .inl hc
  · have hc' : lt x z = false := by simpa using hc
    right
    rcases a.2 with a2 | a2
    · have := h.neg x z y hc' b.1
      rw [a2] at this; cases this
    · rcases b.2 with b2 | b2
      · have := h.neg y x z a.1 hc'
        rw [b2] at this; cases this
      · omega
theorem ordX_srt {lt : Nat → Nat → Bool} (h : SW lt) (f : Nat → Nat) (hf : ∀ i j, i < j → f i < f j) (n : Nat) : Srt (RR lt) (ordX lt f n) := by
  induction n with
  | zero => intro a b hab hb; simp [ordX] at hb
  | succ n ih =>
    unfold ordX
    have hl := ordX_length lt f n
    refine bub_srt (RR.trans h) lt _ n (by simp [hl]) ?_ ?_ ?_
    · intro a b hab hb ha hb'
      simp [hl] at hb
      rw [List.getElem?_append_left (by omega), List.getElem?_append_left (by omega)]
      exact ih a b hab (by omega)
    · intro b h1 h2
      simp [hl] at h2
      omega
    · intro a ha
      have e1 : (ordX lt f n ++ [f n])[n]?.getD 0 = f n := by rw [List.getElem?_append_right (by omega), hl, Nat.sub_self]; rfl
      have ha' : a < (ordX lt f n).length := by omega
      obtain ⟨i, hi, e⟩ := ordX_mem (List.getElem_mem ha')
      have e2 : (ordX lt f n ++ [f n])[a]?.getD 0 = f i := by rw [List.getElem?_append_left ha', List.getElem?_eq_getElem ha', Option.getD_some, e]
      rw [e1, e2]
      exact ⟨fun hh => ⟨h.asy _ _ hh, .inl hh⟩, fun hh => ⟨hh, .inr (hf i n hi)⟩⟩

end Go.Proofs.Ytjobgobeiiakgaa
