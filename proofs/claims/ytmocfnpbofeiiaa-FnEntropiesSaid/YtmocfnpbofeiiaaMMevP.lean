/- Insertion sorts, plain: what the loops make of a list, and why the outcome is in order. -/
import Derived.Test.YtmocfnpbofeiiaaMBase
import Derived.Test.YtmocfnpbofeiiaaMSpo
namespace Go.Proofs.Ytmocfnpbofeiiaa
set_option linter.unusedSimpArgs false
set_option linter.unusedVariables false
open Go.RowKit

/-- Two neighbours exchanged: places j and j + 1. -/
def swp (l : List Nat) (j : Nat) : List Nat := (l.set (j + 1) (l[j]?.getD 0)).set j (l[j + 1]?.getD 0)
/-- The element at a place goes down, not below place a, while it is less than the one before it. -/
def bub (lt : Nat → Nat → Bool) (a : Nat) : List Nat → Nat → List Nat
  | l, 0 => l
  | l, j + 1 => if a ≤ j ∧ lt (l[j + 1]?.getD 0) (l[j]?.getD 0) = true then bub lt a (swp l j) j else l
/-- The first k rounds of an insertion sort from place a on. -/
def insR (lt : Nat → Nat → Bool) (a : Nat) (l : List Nat) : Nat → List Nat
  | 0 => l
  | k + 1 => bub lt a (insR lt a l k) (a + 1 + k)
/-- Elements taken in one after another. -/
def ordX (lt : Nat → Nat → Bool) (f : Nat → Nat) : Nat → List Nat
  | 0 => []
  | i + 1 => bub lt 0 (ordX lt f i ++ [f i]) i
theorem swp_length (l : List Nat) (j : Nat) : (swp l j).length = l.length := by simp [swp]
theorem swp_get (l : List Nat) (j a : Nat) (h : j + 1 < l.length) : (swp l j)[a]?.getD 0 = if a = j then l[j + 1]?.getD 0 else if a = j + 1 then l[j]?.getD 0 else l[a]?.getD 0 := by
  unfold swp
  by_cases h1 : a = j
  · subst h1
    rw [if_pos rfl, List.getElem?_set_self (by simp; omega), Option.getD_some]
  · rw [if_neg h1, List.getElem?_set_ne (by omega)]
    by_cases h2 : a = j + 1
    · subst h2
      rw [if_pos rfl, List.getElem?_set_self (by omega), Option.getD_some]
    · rw [if_neg h2, List.getElem?_set_ne (by omega)]
theorem swp_append (l r : List Nat) (j : Nat) (h : j + 1 < l.length) : swp (l ++ r) j = swp l j ++ r := by
  unfold swp
  rw [List.getElem?_append_left (by omega), List.getElem?_append_left (by omega), List.set_append_left _ _ (by omega), List.set_append_left _ _ (by simp; omega)]
theorem swp_prepend (p l : List Nat) (j : Nat) : swp (p ++ l) (p.length + j) = p ++ swp l j := by
  unfold swp
  rw [List.getElem?_append_right (by omega), List.getElem?_append_right (by omega), List.set_append_right _ _ (by omega), List.set_append_right _ _ (by omega),
    show p.length + j + 1 - p.length = j + 1 by omega, show p.length + j - p.length = j by omega]
theorem bub_length (lt : Nat → Nat → Bool) (a : Nat) (l : List Nat) (j : Nat) : (bub lt a l j).length = l.length := by
  induction j generalizing l with
  | zero => rfl
  | succ j ih => unfold bub; split; · rw [ih, swp_length]
                 · rfl
theorem bub_append (lt : Nat → Nat → Bool) (a : Nat) (l r : List Nat) (j : Nat) (h : j < l.length) : bub lt a (l ++ r) j = bub lt a l j ++ r := by
  induction j generalizing l with
  | zero => rfl
  | succ j ih =>
    unfold bub
    rw [List.getElem?_append_left (by omega), List.getElem?_append_left (by omega)]
    split
    · rw [swp_append _ _ _ h, ih _ (by rw [swp_length]; omega)]
    · rfl
theorem bub_prepend (lt : Nat → Nat → Bool) (p l : List Nat) (j : Nat) : bub lt p.length (p ++ l) (p.length + j) = p ++ bub lt 0 l j := by
  induction j generalizing l with
  | zero =>
    cases hp : p.length with
    | zero => rfl
    | succ k => unfold bub; rw [if_neg (by omega)]
  | succ j ih =>
    rw [← Nat.add_assoc]
    unfold bub
    rw [List.getElem?_append_right (by omega), List.getElem?_append_right (by omega), show p.length + j + 1 - p.length = j + 1 by omega, show p.length + j - p.length = j by omega]
    by_cases h : lt (l[j + 1]?.getD 0) (l[j]?.getD 0) = true
    · rw [if_pos ⟨by omega, h⟩, if_pos ⟨by omega, h⟩, swp_prepend, ih]
    · rw [if_neg (fun x => h x.2), if_neg (fun x => h x.2)]
theorem insR_length (lt : Nat → Nat → Bool) (a : Nat) (l : List Nat) (k : Nat) : (insR lt a l k).length = l.length := by
  induction k with
  | zero => rfl
  | succ k ih => rw [insR, bub_length, ih]
theorem insR_seg (lt : Nat → Nat → Bool) (p l r : List Nat) (k : Nat) (h : k < l.length) : insR lt p.length (p ++ l ++ r) k = p ++ insR lt 0 l k ++ r := by
  induction k with
  | zero => rfl
  | succ k ih =>
    rw [insR, ih (by omega), insR, bub_append _ _ _ _ _ (by simp [insR_length]; omega), show p.length + 1 + k = p.length + (0 + 1 + k) by omega, bub_prepend]
theorem swp_perm (l : List Nat) (j : Nat) (h : j + 1 < l.length) : (swp l j).Perm l := by
  have e : l = l.take j ++ (l[j] :: l[j + 1] :: l.drop (j + 2)) := by
    conv => lhs; rw [← List.take_append_drop j l, List.drop_eq_getElem_cons (by omega), List.drop_eq_getElem_cons (by omega)]
  have e2 : swp l j = l.take j ++ (l[j + 1] :: l[j] :: l.drop (j + 2)) := by
    have hl : (l.take j).length = j := by simp; omega
    have h3 := swp_prepend (l.take j) (l[j] :: l[j + 1] :: l.drop (j + 2)) 0
    rw [← e, hl, Nat.add_zero] at h3
    rw [h3]
    rfl
  rw [e2]
  conv => rhs; rw [e]
  exact List.Perm.append_left _ (List.Perm.swap ..)
theorem bub_perm (lt : Nat → Nat → Bool) (a : Nat) (l : List Nat) (j : Nat) (h : j < l.length) : (bub lt a l j).Perm l := by
  induction j generalizing l with
  | zero => exact List.Perm.refl _
  | succ j ih => unfold bub; split; · exact (ih _ (by rw [swp_length]; omega)).trans (swp_perm l j h)
                 · exact List.Perm.refl _
theorem ordX_length (lt : Nat → Nat → Bool) (f : Nat → Nat) (n : Nat) : (ordX lt f n).length = n := by
  induction n with
  | zero => rfl
  | succ n ih => unfold ordX; rw [bub_length]; simp [ih]
theorem ordX_perm (lt : Nat → Nat → Bool) (f : Nat → Nat) (n : Nat) : (ordX lt f n).Perm ((List.range n).map f) := by
  induction n with
  | zero => exact List.Perm.refl _
  | succ n ih =>
    unfold ordX
    refine (bub_perm _ _ _ _ (by simp [ordX_length])).trans ?_
    rw [List.range_succ, List.map_append]
    exact ih.append_right _
theorem ordX_mem {lt : Nat → Nat → Bool} {f : Nat → Nat} {n x : Nat} (h : x ∈ ordX lt f n) : ∃ i, i < n ∧ x = f i := by
  obtain ⟨i, hi, rfl⟩ := List.mem_map.1 ((ordX_perm lt f n).mem_iff.1 h)
  exact ⟨i, List.mem_range.1 hi, rfl⟩
theorem ordX_lt (lt : Nat → Nat → Bool) (n k : Nat) (h : k < n) : (ordX lt id n)[k]?.getD 0 < n := by
  have hl : k < (ordX lt id n).length := by rw [ordX_length]; exact h
  rw [List.getElem?_eq_getElem hl, Option.getD_some]
  obtain ⟨i, hi, e⟩ := ordX_mem (List.getElem_mem hl)
  rw [e]; exact hi
/-- The rounds of an insertion sort over a whole list. -/
theorem insR_ordX (lt : Nat → Nat → Bool) (l : List Nat) (k : Nat) (h : k < l.length) : insR lt 0 l k = ordX lt (fun i => l[i]?.getD 0) (k + 1) ++ l.drop (k + 1) := by
  induction k with
  | zero =>
    show l = _
    cases l with
    | nil => simp at h
    | cons a l => rfl
  | succ k ih =>
    have e : l.drop (k + 1) = [l[k + 1]?.getD 0] ++ l.drop (k + 2) := by
      rw [List.drop_eq_getElem_cons h, List.getElem?_eq_getElem h]; rfl
    rw [insR, ih (by omega), e, ← List.append_assoc, bub_append _ _ _ _ _ (by simp [ordX_length]; omega), show 0 + 1 + k = k + 1 by omega]
    rfl

/-- A relation that holds from each element to each later one. -/
def Srt (R : Nat → Nat → Prop) (l : List Nat) : Prop := ∀ a b, a < b → b < l.length → R (l[a]?.getD 0) (l[b]?.getD 0)
theorem bub_srt {R : Nat → Nat → Prop} (ht : ∀ x y z, R x y → R y z → R x z) (lt : Nat → Nat → Bool) (l : List Nat) (j : Nat) (hj : j < l.length) (h1 : ∀ a b, a < b → b < l.length → a ≠ j → b ≠ j → R (l[a]?.getD 0) (l[b]?.getD 0)) (h2 : ∀ b, j < b → b < l.length → R (l[j]?.getD 0) (l[b]?.getD 0))
    (h3 : ∀ a, a < j → (lt (l[j]?.getD 0) (l[a]?.getD 0) = true → R (l[j]?.getD 0) (l[a]?.getD 0)) ∧ (lt (l[j]?.getD 0) (l[a]?.getD 0) = false → R (l[a]?.getD 0) (l[j]?.getD 0))) :
    Srt R (bub lt 0 l j) := by
  induction j generalizing l with
  | zero =>
    intro a b hab hb
    by_cases h : a = 0
    · subst h; exact h2 b hab hb
    · exact h1 a b hab hb h (by omega)
  | succ j ih =>
    unfold bub
    by_cases hlt : lt (l[j + 1]?.getD 0) (l[j]?.getD 0) = true
    · rw [if_pos ⟨Nat.zero_le _, hlt⟩]
      refine ih _ (by rw [swp_length]; omega) ?_ ?_ ?_
      · intro a b hab hb ha hb'
        rw [swp_length] at hb
        rw [swp_get _ _ _ hj, swp_get _ _ _ hj, if_neg ha, if_neg hb']
        by_cases e1 : a = j + 1
        · rw [if_pos e1, if_neg (by omega)]
          exact h1 j b (by omega) hb (by omega) (by omega)
        · rw [if_neg e1]
          by_cases e2 : b = j + 1
          · rw [if_pos e2]
            exact h1 a j (by omega) (by omega) e1 (by omega)
          · rw [if_neg e2]
            exact h1 a b hab hb e1 e2
      · intro b hjb hb
        rw [swp_length] at hb
        rw [swp_get _ _ _ hj, swp_get _ _ _ hj, if_pos rfl, if_neg (by omega)]
        by_cases e2 : b = j + 1
        · rw [if_pos e2]; exact (h3 j (by omega)).1 hlt
        · rw [if_neg e2]; exact h2 b (by omega) hb
      · intro a ha
        rw [swp_get _ _ _ hj, swp_get _ _ _ hj, if_pos rfl, if_neg (by omega), if_neg (by omega)]
        exact h3 a (by omega)
    · rw [if_neg (fun x => hlt x.2)]
      have hr := (h3 j (by omega)).2 (by simpa using hlt)
      intro a b hab hb
      by_cases e2 : b = j + 1
      · subst e2
        by_cases e3 : a = j
        · subst e3; exact hr
        · exact ht _ _ _ (h1 a j (by omega) (by omega) (by omega) (by omega)) hr
      · by_cases e1 : a = j + 1
        · subst e1; exact h2 b hab hb
        · exact h1 a b hab hb e1 e2
/-- A strict order on keys. -/
structure SW (lt : Nat → Nat → Bool) : Prop where
  irr : ∀ x, lt x x = false
  neg : ∀ x y z, lt x y = false → lt y z = false → lt x z = false
  asy : ∀ x y, lt x y = true → lt y x = false
/-- Before: less, or not greater and with a smaller number. -/
def RR (lt : Nat → Nat → Bool) (x y : Nat) : Prop := lt y x = false ∧ (lt x y = true ∨ x < y)
theorem RR.trans {lt : Nat → Nat → Bool} (h : SW lt) (x y z : Nat) (a : RR lt x y) (b : RR lt y z) : RR lt x z := by
  refine ⟨h.neg _ _ _ b.1 a.1, ?_⟩
  by_cases hc : lt x z = true
  · exact .inl hc
  · have hc' : lt x z = false := by simpa using hc
    right
    rcases a.2 with a2 | a2
    · have := h.neg x z y hc' b.1
      rw [a2] at this; cases this
    · rcases b.2 with b2 | b2
      · have := h.neg y x z a.1 hc'
        rw [b2] at this; cases this
      · omega
theorem ordX_srt {lt : Nat → Nat → Bool} (h : SW lt) (f : Nat → Nat) (hf : ∀ i j, i < j → f i < f j) (n : Nat) : Srt (RR lt) (ordX lt f n) := by
  induction n with
  | zero => intro a b hab hb; simp [ordX] at hb
  | succ n ih =>
    unfold ordX
    have hl := ordX_length lt f n
    refine bub_srt (RR.trans h) lt _ n (by simp [hl]) ?_ ?_ ?_
    · intro a b hab hb ha hb'
      simp [hl] at hb
      rw [List.getElem?_append_left (by omega), List.getElem?_append_left (by omega)]
      exact ih a b hab (by omega)
    · intro b h1 h2
      simp [hl] at h2
      omega
    · intro a ha
      have e1 : (ordX lt f n ++ [f n])[n]?.getD 0 = f n := by rw [List.getElem?_append_right (by omega), hl, Nat.sub_self]; rfl
      have ha' : a < (ordX lt f n).length := by omega
      obtain ⟨i, hi, e⟩ := ordX_mem (List.getElem_mem ha')
      have e2 : (ordX lt f n ++ [f n])[a]?.getD 0 = f i := by rw [List.getElem?_append_left ha', List.getElem?_eq_getElem ha', Option.getD_some, e]
      rw [e1, e2]
      exact ⟨fun hh => ⟨h.asy _ _ hh, .inl hh⟩, fun hh => ⟨hh, .inr (hf i n hi)⟩⟩

end Go.Proofs.Ytmocfnpbofeiiaa

/- Stable merging of sorted lists, plain: parts that are exchanged, and what a merge is made of. -/
namespace Go.Proofs.Ytmocfnpbofeiiaa
set_option linter.unusedSimpArgs false
set_option linter.unusedVariables false
open Go.RowKit

/-- The stable merge of two sorted lists: an element of the second one comes first only if it is less. -/
def mrg {α : Type} (c : α → α → Bool) : List α → List α → List α
  | [], B => B
  | a :: A, [] => a :: A
  | a :: A, b :: B => if c b a then b :: mrg c (a :: A) B else a :: mrg c A (b :: B)
termination_by A B => A.length + B.length
section
variable {α : Type} (c : α → α → Bool)
theorem mrg_nil (A : List α) : mrg c A [] = A := by cases A <;> simp [mrg]
theorem nil_mrg (B : List α) : mrg c [] B = B := by simp [mrg]
theorem mrg_cons_lt {a b : α} (A B : List α) (h : c b a = true) : mrg c (a :: A) (b :: B) = b :: mrg c (a :: A) B := by rw [mrg, if_pos h]
theorem mrg_cons_ge {a b : α} (A B : List α) (h : c b a = false) : mrg c (a :: A) (b :: B) = a :: mrg c A (b :: B) := by rw [mrg, if_neg (by simp [h])]
theorem mrg_split (n : Nat) : ∀ (A1 B1 A2 B2 : List α), A1.length + B1.length = n → (∀ a ∈ A1, ∀ b ∈ B2, c b a = false) → (∀ b ∈ B1, ∀ a ∈ A2, c b a = true) →
    mrg c (A1 ++ A2) (B1 ++ B2) = mrg c A1 B1 ++ mrg c A2 B2 := by
  induction n with
  | zero =>
    intro A1 B1 A2 B2 hn _ _
    have h1 : A1 = [] := List.eq_nil_of_length_eq_zero (by omega)
    have h2 : B1 = [] := List.eq_nil_of_length_eq_zero (by omega)
    subst h1 h2
    simp [nil_mrg]
  | succ n ih =>
    intro A1 B1 A2 B2 hn h1 h2
    cases A1 with
    | nil =>
      cases B1 with
      | nil => simp at hn
      | cons b B1 =>
        rw [nil_mrg, List.nil_append]
        cases A2 with
        | nil => simp [nil_mrg]
        | cons a A2 =>
          rw [List.cons_append, mrg_cons_lt c _ _ (h2 b (List.mem_cons_self ..) a (List.mem_cons_self ..)), List.cons_append]
          have := ih [] B1 (a :: A2) B2 (by simp at hn ⊢; omega) (by simp) (fun x hx => h2 x (List.mem_cons_of_mem _ hx))
          rw [List.nil_append, nil_mrg] at this
          rw [this]
    | cons a A1 =>
      cases B1 with
      | nil =>
        rw [mrg_nil, List.nil_append]
        cases B2 with
        | nil => simp [mrg_nil]
        | cons b B2 =>
          rw [List.cons_append, mrg_cons_ge c _ _ (h1 a (List.mem_cons_self ..) b (List.mem_cons_self ..)), List.cons_append]
          have := ih A1 [] A2 (b :: B2) (by simp at hn ⊢; omega) (fun x hx => h1 x (List.mem_cons_of_mem _ hx)) (by simp)
          rw [List.nil_append, mrg_nil] at this
          rw [this]
      | cons b B1 =>
        rw [List.cons_append, List.cons_append]
        cases hc : c b a
        · rw [mrg_cons_ge c _ _ hc, mrg_cons_ge c _ _ hc, List.cons_append]
          have := ih A1 (b :: B1) A2 B2 (by simp at hn ⊢; omega) (fun x hx => h1 x (List.mem_cons_of_mem _ hx)) h2
          rw [List.cons_append] at this
          rw [this]
        · rw [mrg_cons_lt c _ _ hc, mrg_cons_lt c _ _ hc, List.cons_append]
          have := ih (a :: A1) B1 A2 B2 (by simp at hn ⊢; omega) h1 (fun x hx => h2 x (List.mem_cons_of_mem _ hx))
          rw [List.cons_append] at this
          rw [this]
theorem mrg_perm (n : Nat) : ∀ (A B : List α), A.length + B.length = n → (mrg c A B).Perm (A ++ B) := by
  induction n with
  | zero =>
    intro A B hn
    have h1 : A = [] := List.eq_nil_of_length_eq_zero (by omega)
    have h2 : B = [] := List.eq_nil_of_length_eq_zero (by omega)
    subst h1 h2
    simp [nil_mrg]
  | succ n ih =>
    intro A B hn
    cases A with
    | nil => rw [nil_mrg]; exact List.Perm.refl _
    | cons a A =>
      cases B with
      | nil => rw [mrg_nil]; simp
      | cons b B =>
        cases hc : c b a
        · rw [mrg_cons_ge c _ _ hc]
          exact (ih A (b :: B) (by simp at hn ⊢; omega)).cons a
        · rw [mrg_cons_lt c _ _ hc]
          exact ((ih (a :: A) B (by simp at hn ⊢; omega)).cons b).trans List.perm_middle.symm
theorem mrg_pw {R : α → α → Prop} (ht : ∀ x y z, R x y → R y z → R x z) (n : Nat) : ∀ (A B : List α), A.length + B.length = n → A.Pairwise R → B.Pairwise R → (∀ a ∈ A, ∀ b ∈ B, c b a = true → R b a) → (∀ a ∈ A, ∀ b ∈ B, c b a = false → R a b) → (mrg c A B).Pairwise R := by
  induction n with
  | zero =>
    intro A B hn hA hB _ _
    have h1 : A = [] := List.eq_nil_of_length_eq_zero (by omega)
    subst h1
    rw [nil_mrg]; exact hB
  | succ n ih =>
    intro A B hn hA hB h1 h2
    cases A with
    | nil => rw [nil_mrg]; exact hB
    | cons a A =>
      cases B with
      | nil => rw [mrg_nil]; exact hA
      | cons b B =>
        rw [List.pairwise_cons] at hA hB
        cases hc : c b a
        · rw [mrg_cons_ge c _ _ hc, List.pairwise_cons]
          have hr := h2 a (List.mem_cons_self ..) b (List.mem_cons_self ..) hc
          refine ⟨fun x hx => ?_, ih A (b :: B) (by simp at hn ⊢; omega) hA.2 (List.pairwise_cons.2 hB) (fun x hx => h1 x (List.mem_cons_of_mem _ hx)) (fun x hx => h2 x (List.mem_cons_of_mem _ hx))⟩
          rcases List.mem_append.1 ((mrg_perm c _ A (b :: B) rfl).mem_iff.1 hx) with h | h
          · exact hA.1 x h
          · rcases List.mem_cons.1 h with rfl | h
            · exact hr
            · exact ht _ _ _ hr (hB.1 x h)
        · rw [mrg_cons_lt c _ _ hc, List.pairwise_cons]
          have hr := h1 a (List.mem_cons_self ..) b (List.mem_cons_self ..) hc
          refine ⟨fun x hx => ?_, ih (a :: A) B (by simp at hn ⊢; omega) (List.pairwise_cons.2 hA) hB.2 (fun x hx y hy => h1 x hx y (List.mem_cons_of_mem _ hy)) (fun x hx y hy => h2 x hx y (List.mem_cons_of_mem _ hy))⟩
          rcases List.mem_append.1 ((mrg_perm c _ (a :: A) B rfl).mem_iff.1 hx) with h | h
          · rcases List.mem_cons.1 h with rfl | h
            · exact hr
            · exact ht _ _ _ hr (hA.1 x h)
          · exact hB.1 x h
/-- One element before a sorted list. -/
theorem mrg_one (x : α) (B1 B2 : List α) (h1 : ∀ b ∈ B1, c b x = true) (h2 : ∀ b ∈ B2, c b x = false) : mrg c [x] (B1 ++ B2) = B1 ++ x :: B2 := by
  have := mrg_split c _ [] B1 [x] B2 rfl (by simp) (fun b hb a ha => by rw [List.mem_singleton] at ha; subst ha; exact h1 b hb)
  rw [List.nil_append, nil_mrg] at this
  rw [this]
  have h3 := mrg_split c _ [x] [] [] B2 rfl (fun a ha b hb => by rw [List.mem_singleton] at ha; subst ha; exact h2 b hb) (by simp)
  rw [List.append_nil, List.nil_append, mrg_nil, nil_mrg] at h3
  rw [h3]; rfl
theorem mrg_last (y : α) (A1 A2 : List α) (h1 : ∀ a ∈ A1, c y a = false) (h2 : ∀ a ∈ A2, c y a = true) : mrg c (A1 ++ A2) [y] = A1 ++ y :: A2 := by
  have := mrg_split c _ A1 [] A2 [y] rfl (fun a ha b hb => by rw [List.mem_singleton] at hb; subst hb; exact h1 a ha) (by simp)
  rw [List.nil_append, mrg_nil] at this
  rw [this]
  have h3 := mrg_split c _ [] [y] A2 [] rfl (by simp) (fun b hb a ha => by rw [List.mem_singleton] at hb; subst hb; exact h2 a ha)
  rw [List.nil_append, List.append_nil, mrg_nil, nil_mrg] at h3
  rw [h3]; rfl
end

end Go.Proofs.Ytmocfnpbofeiiaa

/- Parts of a list exchanged, plain. -/
namespace Go.Proofs.Ytmocfnpbofeiiaa
set_option linter.unusedSimpArgs false
set_option linter.unusedVariables false
open Go.RowKit

/-- Two places exchanged. -/
def sw2 (l : List Nat) (i j : Nat) : List Nat := (l.set i (l[j]?.getD 0)).set j (l[i]?.getD 0)
theorem sw2_length (l : List Nat) (i j : Nat) : (sw2 l i j).length = l.length := by simp [sw2]
theorem sw2_seg (P M S : List Nat) (x y : Nat) (i j : Nat) (hi : i = P.length) (hj : j = P.length + 1 + M.length) : sw2 (P ++ x :: (M ++ y :: S)) i j = P ++ y :: (M ++ x :: S) := by
  subst hi hj
  unfold sw2
  have e1 : (P ++ x :: (M ++ y :: S))[P.length]?.getD 0 = x := by simp
  have e2 : (P ++ x :: (M ++ y :: S))[P.length + 1 + M.length]?.getD 0 = y := by
    rw [List.getElem?_append_right (by omega), show P.length + 1 + M.length - P.length = M.length + 1 by omega, List.getElem?_cons_succ, List.getElem?_append_right (by omega)]
    simp
  rw [e1, e2, List.set_append_right _ _ (by omega), Nat.sub_self, List.set_cons_zero, List.set_append_right _ _ (by omega), show P.length + 1 + M.length - P.length = M.length + 1 by omega, List.set_cons_succ, List.set_append_right _ _ (by omega), Nat.sub_self, List.set_cons_zero]
/-- The places a, a + 1, .. exchanged with b, b + 1, ..: the first k of them. -/
def swpR (l : List Nat) (a b : Nat) : Nat → List Nat
  | 0 => l
  | k + 1 => sw2 (swpR l a b k) (a + k) (b + k)
theorem swpR_length (l : List Nat) (a b k : Nat) : (swpR l a b k).length = l.length := by
  induction k with
  | zero => rfl
  | succ k ih => rw [swpR, sw2_length, ih]
theorem swpR_seg (P X M Y S : List Nat) (n : Nat) (hX : X.length = n) (hY : Y.length = n) (a b : Nat) (ha : a = P.length) (hb : b = P.length + n + M.length) (k : Nat) (hk : k ≤ n) :
    swpR (P ++ X ++ M ++ Y ++ S) a b k = P ++ (Y.take k ++ X.drop k) ++ M ++ (X.take k ++ Y.drop k) ++ S := by
  induction k with
  | zero => simp [swpR]
  | succ k ih =>
    rw [swpR, ih (by omega)]
    have hx : X.drop k = X[k] :: X.drop (k + 1) := List.drop_eq_getElem_cons (by omega)
    have hy : Y.drop k = Y[k] :: Y.drop (k + 1) := List.drop_eq_getElem_cons (by omega)
    have tx : X.take (k + 1) = X.take k ++ [X[k]] := List.take_succ_eq_append_getElem (by omega)
    have ty : Y.take (k + 1) = Y.take k ++ [Y[k]] := List.take_succ_eq_append_getElem (by omega)
    rw [hx, hy, tx, ty]
    have h := sw2_seg (P ++ Y.take k) (X.drop (k + 1) ++ M ++ X.take k) (Y.drop (k + 1) ++ S) X[k] Y[k] (a + k) (b + k) (by simp; omega) (by simp; omega)
    simp only [List.append_assoc, List.cons_append, List.nil_append] at h ⊢
    exact h
theorem swpR_all (P X M Y S : List Nat) (n : Nat) (hX : X.length = n) (hY : Y.length = n) (a b : Nat) (ha : a = P.length) (hb : b = P.length + n + M.length) :
    swpR (P ++ X ++ M ++ Y ++ S) a b n = P ++ Y ++ M ++ X ++ S := by
  rw [swpR_seg P X M Y S n hX hY a b ha hb n (Nat.le_refl _), List.take_of_length_le (by omega), List.take_of_length_le (by omega), List.drop_of_length_le (by omega), List.drop_of_length_le (by omega)]
  simp
/-- What is left to do of an exchange of two parts that lie side by side: i before m, j from m on. -/
def Rot (l : List Nat) (m i j : Nat) (g : List Nat) : Prop := ∃ P X Y S, l = P ++ X ++ Y ++ S ∧ P.length + X.length = m ∧ X.length = i ∧ Y.length = j ∧ g = P ++ Y ++ X ++ S
theorem Rot.big {l g : List Nat} {m i j : Nat} (h : Rot l m i j g) (hij : j < i) : Rot (swpR l (m - i) m j) m (i - j) j g := by
  obtain ⟨P, X, Y, S, rfl, h1, h2, h3, rfl⟩ := h
  have e := swpR_all P (X.take j) (X.drop j) Y S j (by simp; omega) h3 (m - i) m (by omega) (by simp; omega)
  rw [List.append_assoc P, List.take_append_drop] at e
  rw [e]
  exact ⟨P ++ Y, X.drop j, X.take j, S, rfl, by simp; omega, by simp; omega, by simp; omega, by simp [List.append_assoc]⟩
theorem Rot.small {l g : List Nat} {m i j : Nat} (h : Rot l m i j g) (hij : i < j) : Rot (swpR l (m - i) (m + j - i) i) m i (j - i) g := by
  obtain ⟨P, X, Y, S, rfl, h1, h2, h3, rfl⟩ := h
  have e := swpR_all P X (Y.take (j - i)) (Y.drop (j - i)) S i h2 (by simp; omega) (m - i) (m + j - i) (by omega) (by simp; omega)
  have e1 : P ++ X ++ Y ++ S = P ++ X ++ Y.take (j - i) ++ Y.drop (j - i) ++ S := by rw [List.append_assoc (P ++ X) (Y.take (j - i)), List.take_append_drop]
  rw [e1, e]
  refine ⟨P, Y.drop (j - i), Y.take (j - i), X ++ S, by simp [List.append_assoc], by simp; omega, by simp; omega, by simp; omega, ?_⟩
  simp only [List.append_assoc]
  rw [← List.append_assoc (Y.take _), List.take_append_drop]
theorem Rot.done {l g : List Nat} {m i : Nat} (h : Rot l m i i g) : swpR l (m - i) m i = g := by
  obtain ⟨P, X, Y, S, rfl, h1, h2, h3, rfl⟩ := h
  have e := swpR_all P X [] Y S i h2 h3 (m - i) m (by omega) (by simp; omega)
  rw [List.append_nil] at e
  simpa using e

end Go.Proofs.Ytmocfnpbofeiiaa

/- Where a merge of two sorted parts falls into two merges, plain. -/
namespace Go.Proofs.Ytmocfnpbofeiiaa
set_option linter.unusedSimpArgs false
set_option linter.unusedVariables false
open Go.RowKit

/-- Sorted: no later element is less. -/
abbrev NS (lt : Nat → Nat → Bool) (x y : Nat) : Prop := lt y x = false
theorem srt_le {lt : Nat → Nat → Bool} (h : SW lt) {A : List Nat} (hA : A.Pairwise (NS lt)) {p q : Nat} (hpq : p ≤ q) (hq : q < A.length) : lt (A[q]?.getD 0) (A[p]?.getD 0) = false := by
  by_cases e : p = q
  · subst e; exact h.irr _
  · have := List.pairwise_iff_getElem.1 hA p q (by omega) hq (by omega)
    rw [List.getElem?_eq_getElem hq, List.getElem?_eq_getElem (by omega)]
    exact this
theorem mem_take {A : List Nat} {i x : Nat} (h : x ∈ A.take i) : ∃ p, p < i ∧ p < A.length ∧ x = A[p]?.getD 0 := by
  obtain ⟨p, hp, rfl⟩ := List.mem_iff_getElem.1 h
  simp at hp
  exact ⟨p, by omega, by omega, by rw [List.getElem_take, List.getElem?_eq_getElem (by omega)]; rfl⟩
theorem mem_drop {A : List Nat} {i x : Nat} (h : x ∈ A.drop i) : ∃ p, i ≤ p ∧ p < A.length ∧ x = A[p]?.getD 0 := by
  obtain ⟨p, hp, rfl⟩ := List.mem_iff_getElem.1 h
  simp at hp
  exact ⟨i + p, by omega, by omega, by rw [List.getElem_drop, List.getElem?_eq_getElem (by omega)]; rfl⟩
theorem lt_up {lt : Nat → Nat → Bool} (h : SW lt) {x y z : Nat} (h1 : lt x y = true) (h2 : lt z y = false) : lt x z = true := by
  by_cases hc : lt x z = true
  · exact hc
  · have := h.neg x z y (by simpa using hc) h2
    rw [h1] at this; cases this
theorem lt_down {lt : Nat → Nat → Bool} (h : SW lt) {x y z : Nat} (h1 : lt x y = true) (h2 : lt x z = false) : lt z y = true := by
  by_cases hc : lt z y = true
  · exact hc
  · have := h.neg x z y h2 (by simpa using hc)
    rw [h1] at this; cases this
theorem mrg_cut {lt : Nat → Nat → Bool} (h : SW lt) {A B : List Nat} (hA : A.Pairwise (NS lt)) (hB : B.Pairwise (NS lt)) (i j : Nat) (hi : i ≤ A.length) (hj : j ≤ B.length)
    (c1 : i = 0 ∨ j = B.length ∨ lt (B[j]?.getD 0) (A[i - 1]?.getD 0) = false) (c2 : j = 0 ∨ i = A.length ∨ lt (B[j - 1]?.getD 0) (A[i]?.getD 0) = true) :
    mrg lt A B = mrg lt (A.take i) (B.take j) ++ mrg lt (A.drop i) (B.drop j) := by
  have := mrg_split lt _ (A.take i) (B.take j) (A.drop i) (B.drop j) rfl ?_ ?_
  · rw [List.take_append_drop, List.take_append_drop] at this; exact this
  · intro x hx y hy
    obtain ⟨p, p1, p2, rfl⟩ := mem_take hx
    obtain ⟨q, q1, q2, rfl⟩ := mem_drop hy
    rcases c1 with c | c | c
    · omega
    · omega
    · have s1 := srt_le h hA (show p ≤ i - 1 by omega) (by omega)
      have s2 := srt_le h hB q1 q2
      exact h.neg _ _ _ (h.neg _ _ _ s2 c) s1
  · intro y hy x hx
    obtain ⟨p, p1, p2, rfl⟩ := mem_take hy
    obtain ⟨q, q1, q2, rfl⟩ := mem_drop hx
    rcases c2 with c | c | c
    · omega
    · omega
    · have s1 := srt_le h hB (show p ≤ j - 1 by omega) (by omega)
      have s2 := srt_le h hA q1 q2
      exact lt_up h (lt_down h c s1) s2
/-- One element ahead of a sorted list: i is the first place whose element is not less. -/
theorem mrg_in {lt : Nat → Nat → Bool} (h : SW lt) {B : List Nat} (hB : B.Pairwise (NS lt)) (x i : Nat) (hi : i ≤ B.length) (c1 : i = B.length ∨ lt (B[i]?.getD 0) x = false) (c2 : i = 0 ∨ lt (B[i - 1]?.getD 0) x = true) :
    mrg lt [x] B = B.take i ++ x :: B.drop i := by
  have := mrg_one lt x (B.take i) (B.drop i) ?_ ?_
  · rw [List.take_append_drop] at this; exact this
  · intro y hy
    obtain ⟨p, p1, p2, rfl⟩ := mem_take hy
    rcases c2 with c | c
    · omega
    · exact lt_down h c (srt_le h hB (show p ≤ i - 1 by omega) (by omega))
  · intro y hy
    obtain ⟨p, p1, p2, rfl⟩ := mem_drop hy
    rcases c1 with c | c
    · omega
    · exact h.neg _ _ _ (srt_le h hB p1 p2) c
theorem mrg_end {lt : Nat → Nat → Bool} (h : SW lt) {A : List Nat} (hA : A.Pairwise (NS lt)) (y i : Nat) (hi : i ≤ A.length) (c1 : i = A.length ∨ lt y (A[i]?.getD 0) = true) (c2 : i = 0 ∨ lt y (A[i - 1]?.getD 0) = false) :
    mrg lt A [y] = A.take i ++ y :: A.drop i := by
  have := mrg_last lt y (A.take i) (A.drop i) ?_ ?_
  · rw [List.take_append_drop] at this; exact this
  · intro x hx
    obtain ⟨p, p1, p2, rfl⟩ := mem_take hx
    rcases c2 with c | c
    · omega
    · exact h.neg _ _ _ c (srt_le h hA (show p ≤ i - 1 by omega) (by omega))
  · intro x hx
    obtain ⟨p, p1, p2, rfl⟩ := mem_drop hx
    rcases c1 with c | c
    · omega
    · exact lt_up h c (srt_le h hA p1 p2)

end Go.Proofs.Ytmocfnpbofeiiaa

/- Sorted blocks of a list that are merged two by two, plain: the stable sort's passes. -/
namespace Go.Proofs.Ytmocfnpbofeiiaa
set_option linter.unusedSimpArgs false
set_option linter.unusedVariables false
open Go.RowKit

/-- The places a, .., b - 1 of a list. -/
def seg (l : List Nat) (a b : Nat) : List Nat := (l.drop a).take (b - a)
theorem seg_length (l : List Nat) (a b : Nat) (hb : b ≤ l.length) : (seg l a b).length = b - a := by simp [seg]; omega
theorem seg_left (P X : List Nat) (c d : Nat) (h : d ≤ P.length) : seg (P ++ X) c d = seg P c d := by
  unfold seg
  by_cases hc : c ≤ P.length
  · rw [List.drop_append_of_le_length hc, List.take_append_of_le_length (by simp; omega)]
  · rw [show d - c = 0 by omega]; simp
theorem seg_right (P X : List Nat) (c d : Nat) (h : P.length ≤ c) : seg (P ++ X) c d = seg X (c - P.length) (d - P.length) := by
  unfold seg
  rw [List.drop_append, List.drop_of_length_le h, List.nil_append, show d - P.length - (c - P.length) = d - c by omega]
theorem seg_mid (P X S : List Nat) (a b : Nat) (ha : P.length = a) (hb : a + X.length = b) : seg (P ++ (X ++ S)) a b = X := by
  subst ha hb
  unfold seg
  rw [List.drop_left, show P.length + X.length - P.length = X.length by omega, List.take_left]
theorem seg_split (l : List Nat) (a b : Nat) (h : a ≤ b) : l = l.take a ++ (seg l a b ++ l.drop b) := by
  unfold seg
  conv => lhs; rw [← List.take_append_drop a l]
  congr 1
  conv => lhs; rw [← List.take_append_drop (b - a) (l.drop a)]
  rw [List.drop_drop, show a + (b - a) = b by omega]
theorem seg_all (l : List Nat) (n : Nat) (h : l.length ≤ n) : seg l 0 n = l := by unfold seg; rw [List.drop_zero, Nat.sub_zero, List.take_of_length_le h]
/-- The places a, .., b - 1 are sorted, and hold the numbers from a to b - 1. -/
def Sg (lt : Nat → Nat → Bool) (l : List Nat) (a b : Nat) : Prop := (seg l a b).Pairwise (RR lt) ∧ (seg l a b).Perm (List.range' a (b - a))
theorem RR.ns {lt : Nat → Nat → Bool} {l : List Nat} (h : l.Pairwise (RR lt)) : l.Pairwise (NS lt) := h.imp (fun h => h.1)
theorem Sg.merge {lt : Nat → Nat → Bool} (hsw : SW lt) {A C : List Nat} {a m b : Nat} (ham : a ≤ m) (hmb : m ≤ b) (hA : A.Pairwise (RR lt)) (pA : A.Perm (List.range' a (m - a))) (hC : C.Pairwise (RR lt)) (pC : C.Perm (List.range' m (b - m))) :
    (mrg lt A C).Pairwise (RR lt) ∧ (mrg lt A C).Perm (List.range' a (b - a)) := by
  refine ⟨mrg_pw lt (RR.trans hsw) _ A C rfl hA hC (fun x hx y hy h => ⟨hsw.asy _ _ h, .inl h⟩) (fun x hx y hy h => ⟨h, .inr ?_⟩), (mrg_perm lt _ A C rfl).trans ?_⟩
  · have h1 := List.mem_range'_1.1 (pA.mem_iff.1 hx)
    have h2 := List.mem_range'_1.1 (pC.mem_iff.1 hy)
    omega
  · refine (pA.append pC).trans ?_
    have := @List.range'_append_1 a (m - a) (b - m)
    rw [show a + (m - a) = m by omega, show m - a + (b - m) = b - a by omega] at this
    rw [this]
theorem seg_out {l l' P X Y S : List Nat} (h : l = P ++ (X ++ S)) (h' : l' = P ++ (Y ++ S)) (hXY : X.length = Y.length) (c d : Nat) (hcd : d ≤ P.length ∨ P.length + X.length ≤ c) : seg l' c d = seg l c d := by
  subst h h'
  rcases hcd with h | h
  · rw [seg_left _ _ _ _ h, seg_left _ _ _ _ h]
  · rw [← List.append_assoc, ← List.append_assoc, seg_right _ _ _ _ (by simp; omega), seg_right _ _ _ _ (by simp; omega)]
    simp [hXY]
theorem seg_two (l : List Nat) (a m b : Nat) (ham : a ≤ m) (hmb : m ≤ b) : l = l.take a ++ (seg l a m ++ (seg l m b ++ l.drop b)) := by
  conv => lhs; rw [seg_split l a m ham]
  congr 2
  unfold seg
  conv => lhs; rw [← List.take_append_drop (b - m) (l.drop m)]
  rw [List.drop_drop, show m + (b - m) = b by omega]
theorem perm_len {l : List Nat} {n : Nat} (h : l.Perm (List.range n)) : l.length = n := by rw [h.length_eq, List.length_range]
theorem perm_lt {l : List Nat} {n : Nat} (h : l.Perm (List.range n)) : ∀ x ∈ l, x < n := fun x hx => List.mem_range.1 (h.mem_iff.1 hx)
theorem insR_perm (lt : Nat → Nat → Bool) (a : Nat) (l : List Nat) (k : Nat) (h : k = 0 ∨ a + k < l.length) : (insR lt a l k).Perm l := by
  induction k with
  | zero => exact List.Perm.refl _
  | succ k ih =>
    rw [insR]
    exact (bub_perm _ _ _ _ (by rw [insR_length]; omega)).trans (ih (by omega))
/-- Where a pass stands: blocks of 2s are sorted ahead of a, blocks of s from a on. -/
def Pss (lt : Nat → Nat → Bool) (n s a : Nat) (l : List Nat) : Prop :=
  l.Perm (List.range n) ∧ 2 * s ∣ a ∧ (∀ c, c < n → 2 * s ∣ c → c < a → Sg lt l c (min (c + 2 * s) n)) ∧ (∀ c, c < n → s ∣ c → a ≤ c → Sg lt l c (min (c + s) n))
theorem dvd_at {s a c : Nat} (h1 : s ∣ a) (h2 : s ∣ c) (h3 : a ≤ c) (h4 : c < a + s) : c = a := by
  have := Nat.eq_zero_of_dvd_of_lt (Nat.dvd_sub h2 h1) (by omega)
  omega
/-- One merge of two blocks, the second of which may be short. -/
theorem Pss.step {lt : Nat → Nat → Bool} (hsw : SW lt) {n s a b : Nat} {l : List Nat} (H : Pss lt n s a l) (hs : 1 ≤ s) (hb : b = min (a + 2 * s) n) (hab : a + s < b) :
    Pss lt n s (a + 2 * s) (l.take a ++ (mrg lt (seg l a (a + s)) (seg l (a + s) b) ++ l.drop b)) := by
  obtain ⟨hp, hd, h1, h2⟩ := H
  have hl := perm_len hp
  have hsa : s ∣ a := Nat.dvd_trans ⟨2, by omega⟩ hd
  have s1 := h2 a (by omega) hsa (Nat.le_refl _)
  have s2 := h2 (a + s) (by omega) (Nat.dvd_add hsa (Nat.dvd_refl _)) (by omega)
  rw [show min (a + s) n = a + s by omega] at s1
  rw [show min (a + s + s) n = b by omega] at s2
  have e := seg_two l a (a + s) b (by omega) (by omega)
  rw [← List.append_assoc (seg l a (a + s))] at e
  have hlen : (seg l a (a + s) ++ seg l (a + s) b).length = b - a := by
    rw [List.length_append, seg_length _ _ _ (by omega), seg_length _ _ _ (by omega)]; omega
  have hml : (mrg lt (seg l a (a + s)) (seg l (a + s) b)).length = b - a := by rw [(mrg_perm lt _ _ _ rfl).length_eq, hlen]
  have hta : (l.take a).length = a := by simp; omega
  have hM := Sg.merge hsw (show a ≤ a + s by omega) (show a + s ≤ b by omega) s1.1 s1.2 s2.1 s2.2
  have hout := fun c d => seg_out e rfl (hlen.trans hml.symm) c d
  rw [hta, hlen] at hout
  refine ⟨?_, Nat.dvd_add hd (Nat.dvd_refl _), fun c hc hcd hca => ?_, fun c hc hcd hca => ?_⟩
  · refine List.Perm.trans ?_ hp
    conv => rhs; rw [e]
    exact List.Perm.append_left _ (List.Perm.append_right _ (mrg_perm lt _ _ _ rfl))
  · by_cases h : c < a
    · have := h1 c hc hcd h
      have hle : c + 2 * s ≤ a := by
        by_cases hx : c + 2 * s ≤ a
        · exact hx
        · have := dvd_at hcd hd (by omega) (by omega)
          omega
      unfold Sg
      rw [hout _ _ (.inl (by omega))]
      exact this
    · obtain rfl : c = a := dvd_at hd hcd (by omega) (by omega)
      unfold Sg
      rw [← hb, seg_mid _ _ _ _ _ hta (by rw [hml]; omega)]
      exact hM
  · unfold Sg
    rw [hout _ _ (.inr (by omega))]
    exact h2 c hc hcd (by omega)
/-- A pass that has come to its end. -/
theorem Pss.fin {lt : Nat → Nat → Bool} {n s a : Nat} {l : List Nat} (H : Pss lt n s a l) (hb : n < a + 2 * s) (hm : n ≤ a + s) : Pss lt n (2 * s) 0 l := by
  obtain ⟨hl, hd, h1, h2⟩ := H
  refine ⟨hl, Nat.dvd_zero _, fun c hc hcd hca => by omega, fun c hc hcd hca => ?_⟩
  by_cases h : c < a
  · exact h1 c hc hcd h
  · obtain rfl : c = a := dvd_at hd hcd (by omega) (by omega)
    have := h2 c hc (Nat.dvd_trans ⟨2, by omega⟩ hd) (Nat.le_refl _)
    rw [show min (c + s) n = n by omega] at this
    rw [show min (c + 2 * s) n = n by omega]
    exact this
/-- What a sorted list of the numbers below n is. -/
theorem sg_ordX {lt : Nat → Nat → Bool} (hsw : SW lt) {n : Nat} {l : List Nat} (hl : l.length = n) (H : Sg lt l 0 n) : l = ordX lt id n := by
  rw [Sg, seg_all l n (by omega)] at H
  obtain ⟨h1, h2⟩ := H
  have h3 : (ordX lt id n).Pairwise (RR lt) := by
    rw [List.pairwise_iff_getElem]
    intro i j hi hj hij
    have := ordX_srt hsw id (fun _ _ h => h) n i j hij hj
    rw [List.getElem?_eq_getElem hi, List.getElem?_eq_getElem hj] at this
    exact this
  have h4 : (ordX lt id n).Perm (List.range n) := by
    have := ordX_perm lt id n
    rwa [List.map_id] at this
  rw [Nat.sub_zero, ← List.range_eq_range'] at h2
  refine List.Perm.eq_of_pairwise (le := RR lt) (fun x y _ _ a b => ?_) h1 h3 (h2.trans h4.symm)
  rcases a.2 with a2 | a2
  · rw [b.1] at a2; cases a2
  · rcases b.2 with b2 | b2
    · rw [a.1] at b2; cases b2
    · omega
theorem Pss.all {lt : Nat → Nat → Bool} (hsw : SW lt) {n s : Nat} {l : List Nat} (H : Pss lt n s 0 l) (hn : 1 ≤ n) (hs : n ≤ s) : l = ordX lt id n := by
  obtain ⟨hp, hd, h1, h2⟩ := H
  refine sg_ordX hsw (perm_len hp) ?_
  have := h2 0 (by omega) (Nat.dvd_zero _) (Nat.le_refl _)
  rw [show min (0 + s) n = n by omega] at this
  exact this
/-- Where the first pass stands: blocks of s are sorted ahead of a, and from a on nothing has moved. -/
def Fst (lt : Nat → Nat → Bool) (n s a : Nat) (l : List Nat) : Prop :=
  l.Perm (List.range n) ∧ s ∣ a ∧ (∀ c, c < n → s ∣ c → c < a → Sg lt l c (min (c + s) n)) ∧ l.drop a = List.range' a (n - a)
theorem Fst.start (lt : Nat → Nat → Bool) (n s : Nat) : Fst lt n s 0 (List.range n) :=
  ⟨List.Perm.refl _, Nat.dvd_zero _, fun c _ _ h => by omega, by rw [List.drop_zero, Nat.sub_zero, List.range_eq_range']⟩
theorem Fst.step {lt : Nat → Nat → Bool} (hsw : SW lt) {n s a b : Nat} {l : List Nat} (H : Fst lt n s a l) (hs : 1 ≤ s) (hb : b = min (a + s) n) (hab : a < b) :
    Fst lt n s (a + s) (insR lt a l (b - a - 1)) := by
  obtain ⟨hp, hd, h1, h2⟩ := H
  have hl := perm_len hp
  have e := seg_split l a b (by omega)
  have hta : (l.take a).length = a := by simp; omega
  have hsl : (seg l a b).length = b - a := seg_length _ _ _ (by omega)
  have hX : seg l a b = List.range' a (b - a) := by
    unfold seg
    rw [h2, List.take_range'_of_length_ge (by omega)]
  have hins : insR lt a l (b - a - 1) = l.take a ++ (ordX lt (fun i => a + i) (b - a) ++ l.drop b) := by
    have := insR_seg lt (l.take a) (seg l a b) (l.drop b) (b - a - 1) (by omega)
    rw [hta, List.append_assoc, ← e, insR_ordX _ _ _ (by omega), show b - a - 1 + 1 = b - a by omega, List.drop_of_length_le (by omega), List.append_nil, List.append_assoc] at this
    rw [this]
    congr 2
    rw [hX]
    clear this
    have hc : ∀ (f g : Nat → Nat) k, (∀ i, i < k → f i = g i) → ordX lt f k = ordX lt g k := by
      intro f g k
      induction k with
      | zero => intro _; rfl
      | succ k ih => intro hfg; rw [ordX, ordX, ih (fun i hi => hfg i (by omega)), hfg k (by omega)]
    refine hc _ _ _ (fun i hi => ?_)
    rw [List.getElem?_eq_getElem (by simpa using hi), Option.getD_some, List.getElem_range']
    omega
  have hol := ordX_length lt (fun i => a + i) (b - a)
  have hout := fun c d => seg_out e hins (hsl.trans hol.symm) c d
  rw [hta, hsl] at hout
  have hS : Sg lt (insR lt a l (b - a - 1)) a b := by
    unfold Sg
    rw [hins, seg_mid _ _ _ _ _ hta (by rw [hol]; omega)]
    refine ⟨?_, ?_⟩
    · rw [List.pairwise_iff_getElem]
      intro i j hi hj hij
      have := ordX_srt hsw (fun i => a + i) (fun _ _ h => by omega) (b - a) i j hij hj
      rw [List.getElem?_eq_getElem hi, List.getElem?_eq_getElem hj] at this
      exact this
    · refine (ordX_perm lt _ _).trans ?_
      rw [List.range_eq_range', List.map_add_range', Nat.add_zero]
  refine ⟨(insR_perm _ _ _ _ (by omega)).trans hp, Nat.dvd_add hd (Nat.dvd_refl _), fun c hc hcd hca => ?_, ?_⟩
  · by_cases h : c < a
    · have hle : c + s ≤ a := by
        by_cases hx : c + s ≤ a
        · exact hx
        · have := dvd_at hcd hd (by omega) (by omega)
          omega
      unfold Sg
      rw [hout _ _ (.inl (by omega))]
      exact h1 c hc hcd h
    · obtain rfl : c = a := dvd_at hd hcd (by omega) (by omega)
      rw [← hb]
      exact hS
  · rw [hins]
    by_cases hbn : a + s ≤ n
    · obtain rfl : b = a + s := by omega
      rw [List.drop_append, List.drop_of_length_le (by omega), List.nil_append, hta, List.drop_append, List.drop_of_length_le (by omega), List.nil_append, hol, List.drop_drop,
        show a + s + (a + s - a - (a + s - a)) = a + s by omega]
      have := congrArg (List.drop s) h2
      rw [List.drop_drop, List.drop_range'] at this
      rw [this]
      congr 1 <;> omega
    · rw [List.drop_of_length_le (by simp [hol]; omega), show n - (a + s) = 0 by omega]
      rfl
theorem Fst.fin {lt : Nat → Nat → Bool} {n s a : Nat} {l : List Nat} (H : Fst lt n s a l) (hn : n ≤ a) : Pss lt n s 0 l :=
  ⟨H.1, Nat.dvd_zero _, fun c _ _ h => by omega, fun c hc hcd _ => H.2.2.1 c hc hcd (by omega)⟩

end Go.Proofs.Ytmocfnpbofeiiaa

/- Rows at least as even as others, plain: words sorted, sums of the greatest ones. -/
namespace Go.Proofs.Ytmocfnpbofeiiaa
set_option linter.unusedSimpArgs false
set_option linter.unusedVariables false
open Go.RowKit
open Ieee

theorem order_ch {x y : Nat} (hx : Ch x) (hy : Ch y) : Ieee.single.order x y = some (compare (x % 2147483648) (y % 2147483648)) := by
  obtain ⟨o1, o2, o3⟩ := order_fin hx.fnt hy.fnt
  rw [hx.sv, hy.sv] at o1 o2 o3
  by_cases hlt : x % 2147483648 < y % 2147483648
  · rw [Nat.compare_eq_lt.2 hlt]; exact o1.2 (rv_lt _ hlt)
  · by_cases heq : x % 2147483648 = y % 2147483648
    · rw [Nat.compare_eq_eq.2 heq]; exact o2.2 (by rw [heq])
    · rw [Nat.compare_eq_gt.2 (by omega)]; exact o3.2 (rv_lt _ (by omega))
/-- The word at place x is greater than the one at place y. -/
def gtW (f : Nat → Nat) (x y : Nat) : Bool := decide (f y % 2147483648 < f x % 2147483648)
theorem gtW_sw (f : Nat → Nat) : SW (gtW f) :=
  ⟨fun _ => by simp [gtW], fun x y z h1 h2 => by simp [gtW] at *; omega, fun x y h => by simp [gtW] at *; omega⟩
/-- The words of a list by their places. -/
def wat (xs : List Nat) (i : Nat) : Nat := xs[i]?.getD 0
/-- The words, the greatest first. -/
def falF (xs : List Nat) : List Nat := (ordX (gtW (wat xs)) id xs.length).map (wat xs)
theorem falF_length (xs : List Nat) : (falF xs).length = xs.length := by unfold falF; rw [List.length_map, ordX_length]
theorem falF_mem {xs : List Nat} {x : Nat} (h : x ∈ falF xs) : x ∈ xs := by
  unfold falF at h
  obtain ⟨i, hi, rfl⟩ := List.mem_map.1 h
  obtain ⟨j, hj, e⟩ := ordX_mem hi
  replace e : i = j := e
  subst e
  show xs[i]?.getD 0 ∈ xs
  rw [List.getElem?_eq_getElem (by assumption)]
  exact List.getElem_mem _
theorem map_wat (xs : List Nat) : (List.range xs.length).map (wat xs) = xs := by
  refine List.ext_getElem (by simp) (fun i h1 h2 => ?_)
  simp [wat, List.getElem?_eq_getElem h2]
/-- Sums of the first k words. -/
def psF (l : List Nat) : Nat → Nat
  | 0 => 0
  | k + 1 => fA .add .f32 (psF l k) (l[k]?.getD 0)
theorem psF_ok {l : List Nat} (h : ∀ x ∈ l, Ch x) (k : Nat) (hk : k ≤ l.length) : psF l k ≤ 2139095040 := by
  induction k with
  | zero => exact Nat.zero_le _
  | succ k ih =>
    have hx : Ch (l[k]?.getD 0) := by rw [List.getElem?_eq_getElem (by omega)]; exact h _ (List.getElem_mem _)
    exact (add_pn (ih (by omega)) hx.pn).2.1
theorem psF_some {l : List Nat} (h : ∀ x ∈ l, Ch x) (k : Nat) (hk : k < l.length) : (floatBits .add .f32 (psF l k) (l[k]?.getD 0)).isSome = true := by
  have hx : Ch (l[k]?.getD 0) := by rw [List.getElem?_eq_getElem (by omega)]; exact h _ (List.getElem_mem _)
  exact (add_pn (psF_ok h k (by omega)) hx.pn).1
/-- The sums are no greater than the other ones, nearly. -/
def mevAt (u v : List Nat) (k : Nat) : Bool := decide (psF u (k + 1) ≤ fA .add .f32 (psF v (k + 1)) 897581056)
def mevB (u v : List Nat) (n : Nat) : Bool := (List.range n).all (mevAt u v)
def out_IsMoreEven (xs ys : List Nat) : Bool × Bool := if twB xs ys then (mevB (falF xs) (falF ys) xs.length, true) else (false, false)
theorem mevB_succ (u v : List Nat) (k : Nat) : mevB u v (k + 1) = (mevB u v k && mevAt u v k) := by
  unfold mevB; rw [List.range_succ, List.all_append]; simp
theorem mevB_false {u v : List Nat} {n k : Nat} (hk : k < n) (h : mevAt u v k = false) : mevB u v n = false := by
  unfold mevB; rw [List.all_eq_false]; exact ⟨k, List.mem_range.2 hk, by rw [h]; simp⟩
theorem ps_two {l m : List Nat} (hl : ∀ x ∈ l, Ch x) (hm : ∀ x ∈ m, Ch x) (k : Nat) (h1 : k < l.length) (h2 : k < m.length) :
    psF l (k + 1) ≤ 2139095040 ∧ psF m (k + 1) ≤ 2139095040 ∧ (floatBits .add .f32 (psF m (k + 1)) 897581056).isSome = true ∧ fA .add .f32 (psF m (k + 1)) 897581056 ≤ 2139095040 := by
  have a := psF_ok hl (k + 1) (by omega)
  have b := psF_ok hm (k + 1) (by omega)
  obtain ⟨c, d, _⟩ := add_pn b (show Pn 897581056 from .inl (by omega))
  exact ⟨a, b, c, d⟩
theorem cmp_pp {x y : Nat} (hx : x ≤ 2139095040) (hy : y ≤ 2139095040) : Ieee.single.order x y = some (compare x y) := order_pp hx hy
theorem ps_step {us vs : List Nat} {n : Nat} (c1 : ∀ x ∈ us, Ch x) (c2 : ∀ x ∈ vs, Ch x) (l1 : us.length = n) (l2 : vs.length = n) (k : Nat) (hk : k < n) :
    (floatBits .add .f32 (psF us k) (us[k]?.getD 0)).isSome = true ∧ (floatBits .add .f32 (psF vs k) (vs[k]?.getD 0)).isSome = true ∧ fA .add .f32 (psF us k) (us[k]?.getD 0) ≤ 2139095040 ∧
      (floatBits .add .f32 (fA .add .f32 (psF vs k) (vs[k]?.getD 0)) 897581056).isSome = true ∧ fA .add .f32 (fA .add .f32 (psF vs k) (vs[k]?.getD 0)) 897581056 ≤ 2139095040 := by
  obtain ⟨p1, p2, p3, p4⟩ := ps_two c1 c2 k (by omega) (by omega)
  exact ⟨psF_some c1 k (by omega), psF_some c2 k (by omega), p1, p3, p4⟩

end Go.Proofs.Ytmocfnpbofeiiaa
