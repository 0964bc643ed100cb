/- Stable merging of sorted lists, plain: parts that are exchanged, and what a merge is made of. -/
import Derived.Test.YtjobgobeiiakgaaOrd
namespace Go.Proofs.Ytjobgobeiiakgaa
set_option linter.unusedSimpArgs false
set_option linter.unusedVariables false
open Go.RowKit

/-- The stable merge of two sorted lists: an element of the second one comes first only if it is less. -/
def mrg {α : Type} (c : α → α → Bool) : List α → List α → List α
  | [], B => B
  | a :: A, [] => a :: A
  | a :: A, b :: B => if c b a then b :: mrg c (a :: A) B else a :: mrg c A (b :: B)
termination_by A B => A.length + B.length
section
variable {α : Type} (c : α → α → Bool)
theorem mrg_nil (A : List α) : mrg c A [] = A := by cases A <;> simp [mrg]
theorem nil_mrg (B : List α) : mrg c [] B = B := by simp [mrg]
theorem mrg_cons_lt {a b : α} (A B : List α) (h : c b a = true) : mrg c (a :: A) (b :: B) = b :: mrg c (a :: A) B := by rw [mrg, if_pos h]
theorem mrg_cons_ge {a b : α} (A B : List α) (h : c b a = false) : mrg c (a :: A) (b :: B) = a :: mrg c A (b :: B) := by rw [mrg, if_neg (by simp [h])]
theorem mrg_split (n : Nat) : ∀ (A1 B1 A2 B2 : List α), A1.length + B1.length = n → (∀ a ∈ A1, ∀ b ∈ B2, c b a = false) → (∀ b ∈ B1, ∀ a ∈ A2, c b a = true) →
    mrg c (A1 ++ A2) (B1 ++ B2) = mrg c A1 B1 ++ mrg c A2 B2 := by
  induction n with
  | zero =>
    intro A1 B1 A2 B2 hn _ _
    have h1 : A1 = [] := List.eq_nil_of_length_eq_zero (by omega)
    have h2 : B1 = [] := List.eq_nil_of_length_eq_zero (by omega)
    subst h1 h2
    simp [nil_mrg]
  | succ n ih =>
    intro A1 B1 A2 B2 hn h1 h2
    cases A1 with
    | nil =>
      cases B1 with
      | nil => simp at hn
      | cons b B1 =>
        rw [nil_mrg, List.nil_append]
        cases A2 with
        | nil => simp [nil_mrg]
        | cons a A2 =>
          rw [List.cons_append, mrg_cons_lt c _ _ (h2 b (List.mem_cons_self ..) a (List.mem_cons_self ..)), List.cons_append]
          have := ih [] B1 (a :: A2) B2 (by simp at hn ⊢; omega) (by simp) (fun x hx => h2 x (List.mem_cons_of_mem _ hx))
          rw [List.nil_append, nil_mrg] at this
          rw [this]
    | cons a A1 =>
      cases B1 with
      | nil =>
        rw [mrg_nil, List.nil_append]
        cases B2 with
        | nil => simp [mrg_nil]
        | cons b B2 =>
          rw [List.cons_append, mrg_cons_ge c _ _ (h1 a (List.mem_cons_self ..) b (List.mem_cons_self ..)), List.cons_append]
          have := ih A1 [] A2 (b :: B2) (by simp at hn ⊢; omega) (fun x hx => h1 x (List.mem_cons_of_mem _ hx)) (by simp)
          rw [List.nil_append, mrg_nil] at this
          rw [this]
      | cons b B1 =>
        rw [List.cons_append, List.cons_append]
        cases hc : c b a
        · rw [mrg_cons_ge c _ _ hc, mrg_cons_ge c _ _ hc, List.cons_append]
          have := ih A1 (b :: B1) A2 B2 (by simp at hn ⊢; omega) (fun x hx => h1 x (List.mem_cons_of_mem _ hx)) h2
          rw [List.cons_append] at this
          rw [this]
        · rw [mrg_cons_lt c _ _ hc, mrg_cons_lt c _ _ hc, List.cons_append]
          have := ih (a :: A1) B1 A2 B2 (by simp at hn ⊢; omega) h1 (fun x hx => h2 x (List.mem_cons_of_mem _ hx))
          rw [List.cons_append] at this
          rw [this]
theorem mrg_perm (n : Nat) : ∀ (A B : List α), A.length + B.length = n → (mrg c A B).Perm (A ++ B) := by
  induction n with
  | zero =>
    intro A B hn
    have h1 : A = [] := List.eq_nil_of_length_eq_zero (by omega)
    have h2 : B = [] := List.eq_nil_of_length_eq_zero (by omega)
    subst h1 h2
    simp [nil_mrg]
  | succ n ih =>
    intro A B hn
    cases A with
    | nil => rw [nil_mrg]; exact List.Perm.refl _
    | cons a A =>
      cases B with
      | nil => rw [mrg_nil]; simp
      | cons b B =>
        cases hc : c b a
        · rw [mrg_cons_ge c _ _ hc]
          exact (ih A (b :: B) (by simp at hn ⊢; omega)).cons a
        · rw [mrg_cons_lt c _ _ hc]
          exact ((ih (a :: A) B (by simp at hn ⊢; omega)).cons b).trans List.perm_middle.symm
theorem mrg_pw {R : α → α → Prop} (ht : ∀ x y z, R x y → R y z → R x z) (n : Nat) : ∀ (A B : List α), A.length + B.length = n → A.Pairwise R → B.Pairwise R → (∀ a ∈ A, ∀ b ∈ B, c b a = true → R b a) → (∀ a ∈ A, ∀ b ∈ B, c b a = false → R a b) → (mrg c A B).Pairwise R := by
  induction n with
  | zero =>
    intro A B hn hA hB _ _
    have h1 : A = [] := List.eq_nil_of_length_eq_zero (by omega)
    subst h1
    rw [nil_mrg]; exact hB
  | succ n ih =>
    intro A B hn hA hB h1 h2
    cases A with
    | nil => rw [nil_mrg]; exact hB
    | cons a A =>
      cases B with
      | nil => rw [mrg_nil]; exact hA
      | cons b B =>
        rw [List.pairwise_cons] at hA hB
        cases hc : c b a
        · rw [mrg_cons_ge c _ _ hc, List.pairwise_cons]
          have hr := h2 a (List.mem_cons_self ..) b (List.mem_cons_self ..) hc
          refine ⟨fun x hx => ?_, ih A (b :: B) (by simp at hn ⊢; omega) hA.2 (List.pairwise_cons.2 hB) (fun x hx => h1 x (List.mem_cons_of_mem _ hx)) (fun x hx => h2 x (List.mem_cons_of_mem _ hx))⟩
          rcases List.mem_append.1 ((mrg_perm c _ A (b :: B) rfl).mem_iff.1 hx) with h | h
          · exact hA.1 x h
          · rcases List.mem_cons.1 h with rfl | h
            · exact hr
            · exact ht _ _ _ hr (hB.1 x h)
        · rw [mrg_cons_lt c _ _ hc, List.pairwise_cons]
          have hr := h1 a (List.mem_cons_self ..) b (List.mem_cons_self ..) hc
          refine ⟨fun x hx => ?_, ih (a :: A) B (by simp at hn ⊢; omega) (List.pairwise_cons.2 hA) hB.2 (fun x hx y hy => h1 x hx y (List.mem_cons_of_mem _ hy)) (fun x hx y hy => h2 x hx y (List.mem_cons_of_mem _ hy))⟩
          rcases List.mem_append.1 ((mrg_perm c _ (a :: A) B rfl).mem_iff.1 hx) with h | h
          · rcases List.mem_cons.1 h with rfl | h
            · exact hr
            · exact ht _ _ _ hr (hA.1 x h)
          · exact hB.1 x h
/-- One element before a sorted list. -/
theorem mrg_one (x : α) (B1 B2 : List α) (h1 : ∀ b ∈ B1, c b x = true) (h2 : ∀ b ∈ B2, c b x = false) : mrg c [x] (B1 ++ B2) = B1 ++ x :: B2 := by
  have := mrg_split c _ [] B1 [x] B2 rfl (by simp) (fun b hb a ha => by rw [List.mem_singleton] at ha; subst ha; exact h1 b hb)
  rw [List.nil_append, nil_mrg] at this
  rw [this]
  have h3 := mrg_split c _ [x] [] [] B2 rfl (fun a ha b hb => by rw [List.mem_singleton] at ha; subst ha; exact h2 b hb) (by simp)
  rw [List.append_nil, List.nil_append, mrg_nil, nil_mrg] at h3
  rw [h3]; rfl
theorem mrg_last (y : α) (A1 A2 : List α) (h1 : ∀ a ∈ A1, c y a = false) (h2 : ∀ a ∈ A2, c y a = true) : mrg c (A1 ++ A2) [y] = A1 ++ y :: A2 := by
  have := mrg_split c _ A1 [] A2 [y] rfl (fun a ha b hb => by rw [List.mem_singleton] at hb; subst hb; exact h1 a ha) (by simp)
  rw [List.nil_append, mrg_nil] at this
  rw [this]
  have h3 := mrg_split c _ [] [y] A2 [] rfl (by simp) (fun b hb a ha => by rw [List.mem_singleton] at hb; subst hb; exact h2 a ha)
  rw [List.nil_append, List.append_nil, mrg_nil, nil_mrg] at h3
  rw [h3]; rfl
end

end Go.Proofs.Ytjobgobeiiakgaa
