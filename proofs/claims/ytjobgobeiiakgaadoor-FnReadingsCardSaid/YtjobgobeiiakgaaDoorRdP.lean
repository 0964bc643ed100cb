/- Texts that are made in two ways, plain: how many ways there are, and what a law asks of them. -/
import Derived.Test.YtjobgobeiiakgaaDoorUnq
import Derived.Test.YtjobgobeiiakgaaDoorPfx3
namespace Go.Proofs.YtjobgobeiiakgaaDoor
set_option linter.unusedSimpArgs false
set_option linter.unusedVariables false
open Go.RowKit

/-- The text that words make, given by their numbers, the last one first. -/
def catR (ws : List ByteArray) : List Nat → List UInt8
  | [] => []
  | k :: r => catR ws r ++ wbx ws k
/-- The text that words make, given by their numbers. -/
def catW (ws : List ByteArray) : List Nat → List UInt8
  | [] => []
  | k :: r => wbx ws k ++ catW ws r
theorem catW_append (ws : List ByteArray) (A B : List Nat) : catW ws (A ++ B) = catW ws A ++ catW ws B := by
  induction A with
  | nil => rfl
  | cons k A ih => rw [List.cons_append, catW, ih, catW, List.append_assoc]
theorem catW_one (ws : List ByteArray) (k : Nat) : catW ws [k] = wbx ws k := by rw [catW, catW, List.append_nil]
theorem catR_snoc (ws : List ByteArray) (A : List Nat) (k : Nat) : catR ws (A ++ [k]) = wbx ws k ++ catR ws A := by
  induction A with
  | nil => simp [catR]
  | cons j A ih => rw [List.cons_append, catR, ih, catR, List.append_assoc]
theorem catR_rev (ws : List ByteArray) (A : List Nat) : catR ws A.reverse = catW ws A := by
  induction A with
  | nil => rfl
  | cons k A ih => rw [List.reverse_cons, catR_snoc, ih, catW]
/-- All numbers are numbers of words. -/
def InW (ws : List ByteArray) (A : List Nat) : Prop := ∀ k ∈ A, k < ws.length
/-- Two ways, that begin with different words: one makes the text, the other one the text but for a rest. -/
theorem way_two {ws : List ByteArray} {r t : List UInt8} (h : Way ws r t) : ∃ i A k B, i ≠ k ∧ InW ws (i :: A) ∧ InW ws (k :: B) ∧ ((catW ws (i :: A) = t ∧ catW ws (k :: B) ++ r = t) ∨ (catW ws (i :: A) ++ r = t ∧ catW ws (k :: B) = t)) := by
  induction h with
  | init i k hi hk h =>
    unfold pfx at h
    simp only [Bool.and_eq_true, Bool.not_eq_true', decide_eq_false_iff_not] at h
    obtain ⟨hne, hp⟩ := h
    refine ⟨i, [], k, [], hne, fun x hx => by simp at hx; omega, fun x hx => by simp at hx; omega, .inr ⟨?_, by simp [catW]⟩⟩
    rw [List.isPrefixOf_iff_prefix] at hp
    obtain ⟨s, hs⟩ := hp
    rw [catW, catW, List.append_nil, ← hs]
    simp
  | step r t h hr j hj nx more hf ih =>
    obtain ⟨i, A, k, B, hne, hA, hB, hor⟩ := ih
    have snoc : ∀ {A : List Nat} {i : Nat}, InW ws (i :: A) → InW ws (i :: (A ++ [j])) := fun {A i} hA x hx => by
      rw [← List.cons_append] at hx
      rcases List.mem_append.1 hx with h | h
      · exact hA x h
      · simp at h; omega
    unfold fol at hf
    split at hf
    · rename_i hp
      cases hf
      rw [List.isPrefixOf_iff_prefix] at hp
      obtain ⟨s, hs⟩ := hp
      have hd : r.drop (wbx ws j).length = s := by rw [← hs]; simp
      rw [hd, List.append_nil]
      rcases hor with ⟨h1, h2⟩ | ⟨h1, h2⟩
      · refine ⟨i, A, k, B ++ [j], hne, hA, snoc hB, .inl ⟨h1, ?_⟩⟩
        rw [← List.cons_append, catW_append, catW_one, List.append_assoc, hs, h2]
      · refine ⟨i, A ++ [j], k, B, hne, snoc hA, hB, .inr ⟨?_, h2⟩⟩
        rw [← List.cons_append, catW_append, catW_one, List.append_assoc, hs, h1]
    · split at hf
      · rename_i hp
        cases hf
        rw [List.isPrefixOf_iff_prefix] at hp
        obtain ⟨s, hs⟩ := hp
        have hd : (wbx ws j).drop r.length = s := by rw [← hs]; simp
        rw [hd]
        rcases hor with ⟨h1, h2⟩ | ⟨h1, h2⟩
        · refine ⟨i, A, k, B ++ [j], hne, hA, snoc hB, .inr ⟨by rw [h1], ?_⟩⟩
          rw [← List.cons_append, catW_append, catW_one, ← hs, ← List.append_assoc, h2]
        · refine ⟨i, A ++ [j], k, B, hne, snoc hA, hB, .inl ⟨?_, by rw [h2]⟩⟩
          rw [← List.cons_append, catW_append, catW_one, ← hs, ← List.append_assoc, h1]
      · cases hf
/-- A text that is made in two ways. -/
theorem way_both {ws : List ByteArray} {t : List UInt8} (h : Way ws [] t) : ∃ A B, A ≠ B ∧ InW ws A ∧ InW ws B ∧ catR ws A = t ∧ catR ws B = t ∧ A ≠ [] := by
  obtain ⟨i, A, k, B, hne, hA, hB, hor⟩ := way_two h
  have h2 : catW ws (i :: A) = t ∧ catW ws (k :: B) = t := by
    rcases hor with ⟨h1, h2⟩ | ⟨h1, h2⟩
    · exact ⟨h1, by simpa using h2⟩
    · exact ⟨by simpa using h1, h2⟩
  refine ⟨(i :: A).reverse, (k :: B).reverse, ?_, fun x hx => hA x (List.mem_reverse.1 hx), fun x hx => hB x (List.mem_reverse.1 hx), by rw [catR_rev]; exact h2.1, by rw [catR_rev]; exact h2.2, by simp⟩
  intro e
  have := List.reverse_inj.1 e
  simp at this
  exact hne this.1

/-- Words with no letters are none. -/
def NoE (ws : List ByteArray) : Prop := ∀ k, k < ws.length → 1 ≤ (wbx ws k).length
/-- The word k ends the first m letters. -/
def ends (ws : List ByteArray) (t : List UInt8) (i k : Nat) : Bool := decide (i + (wbx ws k).length ≤ t.length) && decide ((t.drop i).take (wbx ws k).length = wbx ws k)
/-- Ways counted: behind the words k' < k at place i. A step of the counting. -/
def cstp (ws : List ByteArray) (t : List UInt8) (i k : Nat) (c : List Nat) : List Nat :=
  if ends ws t i k then c.set (i + (wbx ws k).length) (min 100 (c[i + (wbx ws k).length]?.getD 0 + c[i]?.getD 0)) else c
def crow (ws : List ByteArray) (t : List UInt8) (i : Nat) (c : List Nat) : Nat → List Nat
  | 0 => c
  | k + 1 => cstp ws t i k (crow ws t i c k)
def call (ws : List ByteArray) (t : List UInt8) (c : List Nat) : Nat → List Nat
  | 0 => c
  | i + 1 => crow ws t i (call ws t c i) ws.length
def c0 (t : List UInt8) : List Nat := 1 :: List.replicate t.length 0
theorem cstp_length (ws : List ByteArray) (t : List UInt8) (i k : Nat) (c : List Nat) : (cstp ws t i k c).length = c.length := by
  unfold cstp; split <;> simp
theorem crow_length (ws : List ByteArray) (t : List UInt8) (i : Nat) (c : List Nat) (k : Nat) : (crow ws t i c k).length = c.length := by
  induction k with
  | zero => rfl
  | succ k ih => rw [crow, cstp_length, ih]
theorem call_length (ws : List ByteArray) (t : List UInt8) (c : List Nat) (i : Nat) : (call ws t c i).length = c.length := by
  induction i with
  | zero => rfl
  | succ i ih => rw [call, crow_length, ih]
/-- All entries are at most 100. -/
def Cap (c : List Nat) : Prop := ∀ j : Nat, c[j]?.getD 0 ≤ 100
theorem cstp_get (ws : List ByteArray) (t : List UInt8) (i k : Nat) (c : List Nat) (j : Nat) : (cstp ws t i k c)[j]?.getD 0 = if ends ws t i k = true ∧ j = i + (wbx ws k).length ∧ j < c.length then min 100 (c[j]?.getD 0 + c[i]?.getD 0) else c[j]?.getD 0 := by
  unfold cstp
  cases he : ends ws t i k
  · simp
  · simp only [if_true, true_and]
    by_cases hj : j = i + (wbx ws k).length
    · subst hj
      by_cases hl : i + (wbx ws k).length < c.length
      · rw [List.getElem?_set_self hl, if_pos ⟨rfl, hl⟩]; rfl
      · rw [if_neg (fun h => hl h.2), List.getElem?_eq_none (by simp; omega), List.getElem?_eq_none (by omega)]
    · rw [List.getElem?_set_ne (fun h => hj h.symm), if_neg (fun h => hj h.1)]
theorem cstp_cap {ws : List ByteArray} {t : List UInt8} {c : List Nat} (h : Cap c) (i k : Nat) : Cap (cstp ws t i k c) := by
  intro j
  rw [cstp_get]
  split
  · omega
  · exact h j
theorem cstp_mono {ws : List ByteArray} {t : List UInt8} {c : List Nat} (h : Cap c) (i k j : Nat) : c[j]?.getD 0 ≤ (cstp ws t i k c)[j]?.getD 0 := by
  rw [cstp_get]
  have := h j
  split <;> omega
theorem crow_cap {ws : List ByteArray} {t : List UInt8} {c : List Nat} (h : Cap c) (i k : Nat) : Cap (crow ws t i c k) := by
  induction k with
  | zero => exact h
  | succ k ih => exact cstp_cap ih i k
theorem crow_mono {ws : List ByteArray} {t : List UInt8} {c : List Nat} (h : Cap c) (i j : Nat) : ∀ k k', k ≤ k' → (crow ws t i c k)[j]?.getD 0 ≤ (crow ws t i c k')[j]?.getD 0 := by
  intro k k' hk
  induction k' with
  | zero => obtain rfl : k = 0 := by omega
            exact Nat.le_refl _
  | succ k' ih =>
    by_cases he : k = k' + 1
    · subst he; exact Nat.le_refl _
    · exact Nat.le_trans (ih (by omega)) (cstp_mono (crow_cap h i k') i k' j)
theorem call_cap {ws : List ByteArray} {t : List UInt8} {c : List Nat} (h : Cap c) (i : Nat) : Cap (call ws t c i) := by
  induction i with
  | zero => exact h
  | succ i ih => exact crow_cap ih i _
theorem call_mono {ws : List ByteArray} {t : List UInt8} {c : List Nat} (h : Cap c) (j : Nat) : ∀ i i', i ≤ i' → (call ws t c i)[j]?.getD 0 ≤ (call ws t c i')[j]?.getD 0 := by
  intro i i' hi
  induction i' with
  | zero => obtain rfl : i = 0 := by omega
            exact Nat.le_refl _
  | succ i' ih =>
    by_cases he : i = i' + 1
    · subst he; exact Nat.le_refl _
    · exact Nat.le_trans (ih (by omega)) (crow_mono (call_cap h i') i' j 0 _ (Nat.zero_le _))
/-- In its own row a place keeps its number. -/
theorem crow_same {ws : List ByteArray} (hw : NoE ws) {t : List UInt8} {c : List Nat} (i : Nat) : ∀ k, k ≤ ws.length → (crow ws t i c k)[i]?.getD 0 = c[i]?.getD 0 := by
  intro k hk
  induction k with
  | zero => rfl
  | succ k ih =>
    rw [crow, cstp_get, if_neg, ih (by omega)]
    intro h
    have := hw k (by omega)
    omega
/-- What a word adds. -/
theorem crow_add {ws : List ByteArray} (hw : NoE ws) {t : List UInt8} {c : List Nat} (i k : Nat) (hk : k < ws.length) (he : ends ws t i k = true) (hl : i + (wbx ws k).length < c.length) :
    (crow ws t i c (k + 1))[i + (wbx ws k).length]?.getD 0 = min 100 ((crow ws t i c k)[i + (wbx ws k).length]?.getD 0 + c[i]?.getD 0) := by
  rw [crow, cstp_get, if_pos ⟨he, rfl, by rw [crow_length]; exact hl⟩, crow_same hw i k (by omega)]
theorem call_one {ws : List ByteArray} (hw : NoE ws) {t : List UInt8} {c : List Nat} (h : Cap c) (i k : Nat) (hk : k < ws.length) (he : ends ws t i k = true) (hl : i + (wbx ws k).length < c.length) :
    min 100 ((call ws t c i)[i + (wbx ws k).length]?.getD 0 + (call ws t c i)[i]?.getD 0) ≤ (call ws t c (i + 1))[i + (wbx ws k).length]?.getD 0 := by
  have h1 := crow_add hw (c := call ws t c i) i k hk he (by rw [call_length]; exact hl)
  have h2 := crow_mono (ws := ws) (t := t) (call_cap (ws := ws) (t := t) h i) i (i + (wbx ws k).length) 0 k (Nat.zero_le _)
  have h3 := crow_mono (ws := ws) (t := t) (call_cap (ws := ws) (t := t) h i) i (i + (wbx ws k).length) (k + 1) ws.length (by omega)
  rw [crow] at h2
  rw [call]
  omega
theorem call_two {ws : List ByteArray} (hw : NoE ws) {t : List UInt8} {c : List Nat} (h : Cap c) (i k k' : Nat) (hkk : k < k') (hk : k' < ws.length) (he : ends ws t i k = true) (he' : ends ws t i k' = true) (hm : (wbx ws k').length = (wbx ws k).length) (hl : i + (wbx ws k).length < c.length) :
    min 100 ((call ws t c i)[i]?.getD 0 + (call ws t c i)[i]?.getD 0) ≤ (call ws t c (i + 1))[i + (wbx ws k).length]?.getD 0 := by
  have h1 := crow_add hw (c := call ws t c i) i k (by omega) he (by rw [call_length]; exact hl)
  have h1' := crow_add hw (c := call ws t c i) i k' hk he' (by rw [call_length, hm]; exact hl)
  rw [hm] at h1'
  have h2 := crow_mono (ws := ws) (t := t) (call_cap (ws := ws) (t := t) h i) i (i + (wbx ws k).length) (k + 1) k' (by omega)
  have h3 := crow_mono (ws := ws) (t := t) (call_cap (ws := ws) (t := t) h i) i (i + (wbx ws k).length) (k' + 1) ws.length (by omega)
  rw [call]
  omega
/-- The last word of a text that words make. -/
theorem catR_last {ws : List ByteArray} {t : List UInt8} {k : Nat} {A : List Nat} {j : Nat} (hj : j ≤ t.length) (h : catR ws (k :: A) = t.take j) :
    ∃ i, j = i + (wbx ws k).length ∧ catR ws A = t.take i ∧ ends ws t i k = true := by
  rw [catR] at h
  have hl := congrArg List.length h
  rw [List.length_append, List.length_take, Nat.min_eq_left hj] at hl
  refine ⟨(catR ws A).length, hl.symm, ?_, ?_⟩
  · have := congrArg (List.take (catR ws A).length) h
    rw [List.take_left, List.take_take, Nat.min_eq_left (by omega)] at this
    exact this
  · have := congrArg (List.drop (catR ws A).length) h
    rw [List.drop_left, List.drop_take, show j - (catR ws A).length = (wbx ws k).length by omega] at this
    unfold ends
    rw [Bool.and_eq_true, decide_eq_true_iff, decide_eq_true_iff]
    exact ⟨by omega, this.symm⟩
theorem c0_cap (t : List UInt8) : Cap (c0 t) := by
  intro j
  unfold c0
  cases j with
  | zero => simp
  | succ j =>
    rw [List.getElem?_cons_succ, List.getElem?_replicate]
    split <;> simp
theorem c0_length (t : List UInt8) : (c0 t).length = t.length + 1 := by simp [c0]
theorem ways_one {ws : List ByteArray} (hw : NoE ws) (t : List UInt8) (j : Nat) : ∀ A, j ≤ t.length → InW ws A → catR ws A = t.take j → 1 ≤ (call ws t (c0 t) j)[j]?.getD 0 := by
  induction j using Nat.strongRecOn with
  | _ j ih =>
    intro A hj hA h
    cases A with
    | nil =>
      have hl := congrArg List.length h
      rw [List.length_take, Nat.min_eq_left hj] at hl
      obtain rfl : j = 0 := hl.symm
      simp [call, c0]
    | cons k A =>
      obtain ⟨i, rfl, h2, he⟩ := catR_last hj h
      have hk := hA k (List.mem_cons_self ..)
      have hk1 := hw k hk
      have h3 := ih i (by omega) A (by omega) (fun x hx => hA x (List.mem_cons_of_mem _ hx)) h2
      have h4 := call_one hw (c0_cap t) i k hk he (by rw [c0_length]; omega)
      have h5 := call_mono (ws := ws) (t := t) (c0_cap t) (i + (wbx ws k).length) (i + 1) (i + (wbx ws k).length) (by omega)
      omega
theorem ways_two {ws : List ByteArray} (hw : NoE ws) (t : List UInt8) (j : Nat) : ∀ A B, j ≤ t.length → A ≠ B → InW ws A → InW ws B → catR ws A = t.take j → catR ws B = t.take j → 2 ≤ (call ws t (c0 t) j)[j]?.getD 0 := by
  induction j using Nat.strongRecOn with
  | _ j ih =>
    intro A B hj hne hA hB h h'
    have nilc : ∀ k A, InW ws (k :: A) → catR ws (k :: A) = t.take j → j ≠ 0 := fun k A hA h e => by
      obtain ⟨i, hi, -, -⟩ := catR_last hj h
      have := hw k (hA k (List.mem_cons_self ..))
      omega
    have nill : catR ws [] = t.take j → j = 0 := fun h => by
      have hl := congrArg List.length h
      rw [List.length_take, Nat.min_eq_left hj] at hl
      exact hl.symm
    cases A with
    | nil =>
      cases B with
      | nil => exact absurd rfl hne
      | cons k B => exact absurd (nill h) (nilc k B hB h')
    | cons k A =>
      cases B with
      | nil => exact absurd (nill h') (nilc k A hA h)
      | cons k' B =>
        obtain ⟨i, hi, h2, he⟩ := catR_last hj h
        obtain ⟨i', hi', h2', he'⟩ := catR_last hj h'
        have hk := hA k (List.mem_cons_self ..)
        have hk' := hB k' (List.mem_cons_self ..)
        have hk1 := hw k hk
        have hk1' := hw k' hk'
        have hA2 : InW ws A := fun x hx => hA x (List.mem_cons_of_mem _ hx)
        have hB2 : InW ws B := fun x hx => hB x (List.mem_cons_of_mem _ hx)
        have one := ways_one hw t i A (by omega) hA2 h2
        have one' := ways_one hw t i' B (by omega) hB2 h2'
        have mono := fun a b hab => call_mono (ws := ws) (t := t) (c0_cap t) j a b hab
        have o1 := call_one hw (c0_cap t) i k hk he (by rw [c0_length]; omega)
        have o1' := call_one hw (c0_cap t) i' k' hk' he' (by rw [c0_length]; omega)
        rw [← hi] at o1
        rw [← hi'] at o1'
        by_cases hkk : k = k'
        · subst hkk
          obtain rfl : i = i' := by omega
          have two := ih i (by omega) A B (by omega) (fun e => hne (by rw [e])) hA2 hB2 h2 h2'
          have := mono (i + 1) j (by omega)
          omega
        · rcases Nat.lt_trichotomy i i' with hlt | heq | hlt
          · have := mono (i + 1) i' (by omega)
            have := mono (i' + 1) j (by omega)
            omega
          · subst heq
            have hm : (wbx ws k').length = (wbx ws k).length := by omega
            have := mono (i + 1) j (by omega)
            rcases Nat.lt_or_gt_of_ne hkk with hlt | hlt
            · have h6 := call_two hw (c0_cap t) i k k' hlt hk' he he' hm (by rw [c0_length]; omega)
              rw [← hi] at h6
              omega
            · have h6 := call_two hw (c0_cap t) i k' k hlt hk he' he hm.symm (by rw [c0_length]; omega)
              rw [← hi'] at h6
              omega
          · have := mono (i' + 1) i (by omega)
            have := mono (i + 1) j (by omega)
            omega
/-- The law's counting finds two ways at least. -/
theorem ways_fin {ws : List ByteArray} (hw : wsOk ws = true) {t : List UInt8} (h : Way ws [] t) : 1 ≤ t.length ∧ 2 ≤ (call ws t (c0 t) t.length)[t.length]?.getD 0 := by
  have hne : NoE ws := fun k hk => (wOk_len ((wsOk_parts hw).2.2 k hk)).1
  obtain ⟨A, B, hab, hA, hB, h1, h2, h3⟩ := way_both h
  refine ⟨?_, ways_two hne t t.length A B (Nat.le_refl _) hab hA hB (by rw [List.take_length]; exact h1) (by rw [List.take_length]; exact h2)⟩
  cases A with
  | nil => exact absurd rfl h3
  | cons k A =>
    rw [catR] at h1
    have := congrArg List.length h1
    rw [List.length_append] at this
    have := hne k (hA k (List.mem_cons_self ..))
    omega
/-- Words of which none begins another one are unique. -/
theorem free_unique {ws : List ByteArray} (h : anyP ws = false) : ¬ ∃ t, Way ws [] t := by
  rintro ⟨t, ht⟩
  have : ∀ r t, Way ws r t → anyP ws = true := by
    intro r t hw
    induction hw with
    | init i k hi hk hp => exact anyP_yes rfl hi hk hp
    | step r t h hr k hk nx more hf ih => exact ih
  rw [this _ _ ht] at h; cases h
/-- A word twice is made in two ways. -/
theorem twice_way {ws : List ByteArray} (h1 : 1 ≤ ws.length) : ∃ t, Way (ws ++ [ws[0]?.getD ⟨#[]⟩]) [] t := by
  have e0 : wbx (ws ++ [ws[0]?.getD ⟨#[]⟩]) 0 = wbx ws 0 := by
    unfold wbx; rw [List.getElem?_append_left (by omega)]
  have en : wbx (ws ++ [ws[0]?.getD ⟨#[]⟩]) ws.length = wbx ws 0 := by
    unfold wbx; rw [List.getElem?_append_right (Nat.le_refl _), Nat.sub_self]; rfl
  have := Way.init (ws := ws ++ [ws[0]?.getD ⟨#[]⟩]) 0 ws.length (by simp) (by simp) (by
    unfold pfx
    rw [e0, en, Bool.and_eq_true]
    refine ⟨?_, ?_⟩
    · rw [Bool.not_eq_true', decide_eq_false_iff_not]; omega
    · rw [List.isPrefixOf_iff_prefix]; exact List.prefix_refl _)
  rw [e0, en] at this
  exact ⟨_, by simpa using this⟩
/-- The words 0, 01 and 10. -/
def w3 : List ByteArray := [⟨#[48]⟩, ⟨#[48, 49]⟩, ⟨#[49, 48]⟩]
theorem w3_ok : wsOk w3 = true := by decide
theorem w3_min : isMin w3 [48, 49, 48] := by
  have hk : ∀ k, k < w3.length → k = 0 ∨ k = 1 ∨ k = 2 := fun k hk => by
    have : k < 3 := hk
    omega
  constructor
  · have h1 : Way w3 [49] [48, 49] := Way.init 0 1 (by decide) (by decide) (by decide)
    have h2 := Way.step _ _ h1 (by decide) 2 (by decide) [48] [48] (by decide)
    have h3 := Way.step _ _ h2 (by decide) 0 (by decide) [] [] (by decide)
    exact h3
  · have key : ∀ r u, Way w3 r u → (r = [49] ∧ u = [48, 49]) ∨ rk [48, 49, 48] ≤ rk u := by
      intro r u h
      induction h with
      | init i k hi hk' hp =>
        left
        rcases hk i hi with rfl | rfl | rfl <;> rcases hk k hk' with rfl | rfl | rfl <;> first | exact ⟨rfl, rfl⟩ | exact absurd hp (by decide)
      | step r t h hr k hk' nx more hf ih =>
        right
        rcases ih with ⟨rfl, rfl⟩ | ih
        · rcases hk k hk' with rfl | rfl | rfl
          · have : fol (wbx w3 0) [49] = none := by decide
            rw [this] at hf; cases hf
          · have : fol (wbx w3 1) [49] = none := by decide
            rw [this] at hf; cases hf
          · have : fol (wbx w3 2) [49] = some ([48], [48]) := by decide
            rw [this] at hf
            cases hf
            decide
        · exact Nat.le_trans ih (rk_le_app _ _)
    intro u hu
    rcases key _ _ hu with ⟨h, -⟩ | h
    · cases h
    · exact h
theorem w3_two : out_TwoReadings w3 = (⟨#[48, 49, 48]⟩, true) := outT_some w3_ok w3_min (by decide)
/-- Words of 1 to 4 bits are right. -/
def W14 (ws : List ByteArray) : Prop := ∀ x ∈ ws, (1 ≤ x.data.toList.length ∧ x.data.toList.length ≤ 4) ∧ ∀ c ∈ x.data.toList, c = 48 ∨ c = 49
theorem w14_at {ws : List ByteArray} (h : W14 ws) {k : Nat} (hk : k < ws.length) : (1 ≤ (wbx ws k).length ∧ (wbx ws k).length ≤ 4) ∧ ∀ c ∈ wbx ws k, c = 48 ∨ c = 49 := by
  unfold wbx
  rw [List.getElem?_eq_getElem hk]
  exact h _ (List.getElem_mem hk)
theorem w14_ok {ws : List ByteArray} (h : W14 ws) (h1 : 1 ≤ ws.length) (h2 : ws.length ≤ 16) : wsOk ws = true := by
  rw [wsOk_end (n := ws.length) rfl ?_, decide_eq_true h1, decide_eq_true h2]
  · rfl
  · intro j hj
    obtain ⟨⟨a, b⟩, c⟩ := w14_at h hj
    unfold wOkAt bitsOk
    rw [decide_eq_true a, decide_eq_true (show (wbx ws j).length ≤ 32 by omega), decide_eq_true (show (wbx ws j).length ≤ 512 by omega), Bool.true_and, Bool.and_true, Bool.and_true, List.all_eq_true]
    intro x hx
    have := c x hx
    simpa [isBit] using this
theorem w14_size {ws : List ByteArray} (h : W14 ws) (h2 : ws.length ≤ 16) : (∀ x ∈ ws, x.size ≤ 9223372036854775807) ∧ ws.length + tob ws ≤ 1048576 := by
  have hs : ∀ x ∈ ws, x.size ≤ 4 := fun x hx => by
    have := (h x hx).1.2
    rw [show x.data.toList.length = x.size from Array.length_toList] at this
    exact this
  refine ⟨fun x hx => by have := hs x hx; omega, ?_⟩
  have : tob ws ≤ ws.length * 4 := by
    clear h h2
    induction ws with
    | nil => simp [tob]
    | cons x r ih =>
      have e : tob (x :: r) = x.size + tob r := by unfold tob; simp
      rw [e, List.length_cons]
      have := hs x (List.mem_cons_self ..)
      have := ih (fun y hy => hs y (List.mem_cons_of_mem _ hy))
      omega
  omega
/-- What the law learns of words. -/
theorem words_told {ws : List ByteArray} (h : W14 ws) (h1 : 1 ≤ ws.length) (h2 : ws.length ≤ 4) :
    ∃ fr uq : Bool, out_IsPrefixFree ws = (fr, true) ∧ out_IsUnique ws = (uq, true) ∧ (fr = true → uq = true) ∧
      ((∃ t : List UInt8, out_TwoReadings ws = (⟨t.toArray⟩, true) ∧ uq = false ∧ 1 ≤ t.length ∧ t.length ≤ 32 ∧ 2 ≤ (call ws t (c0 t) t.length)[t.length]?.getD 0) ∨ ∃ s, out_TwoReadings ws = (s, false)) := by
  have hok := w14_ok h h1 (by omega)
  refine ⟨!anyP ws, (out_IsUnique ws).1, by unfold out_IsPrefixFree; rw [hok]; rfl, ?_, ?_, ?_⟩
  · by_cases hw : ∃ t, Way ws [] t
    · rw [outU_two hok hw]
    · rw [outU_one hok hw]
  · intro hf
    rw [outU_one hok (free_unique (by simpa using hf))]
  · by_cases hw : ∃ t, Way ws [] t
    · obtain ⟨t, ht⟩ := exists_min hw
      by_cases hl : t.length ≤ 32
      · obtain ⟨a, b⟩ := ways_fin hok ht.1
        exact .inl ⟨t, outT_some hok ht hl, by rw [outU_two hok hw], a, hl, b⟩
      · refine .inr ⟨_, outT_none ?_⟩
        rintro ⟨u, hu, hul⟩
        rw [isMin_one (wsOk_bits hok) ht hu] at hl
        exact hl hul
    · exact .inr ⟨_, outT_none (fun ⟨u, hu, _⟩ => hw ⟨u, hu.1⟩)⟩
theorem twice_told {ws : List ByteArray} (h : W14 ws) (h1 : 1 ≤ ws.length) (h2 : ws.length ≤ 4) : out_IsUnique (ws ++ [ws[0]?.getD ⟨#[]⟩]) = (false, true) ∧ W14 (ws ++ [ws[0]?.getD ⟨#[]⟩]) := by
  have hw : W14 (ws ++ [ws[0]?.getD ⟨#[]⟩]) := fun x hx => by
    rcases List.mem_append.1 hx with hx | hx
    · exact h x hx
    · rw [List.mem_singleton, List.getElem?_eq_getElem (by omega)] at hx
      rw [hx]
      exact h _ (List.getElem_mem _)
  exact ⟨outU_two (w14_ok hw (by simp) (by simp; omega)) (twice_way h1), hw⟩

end Go.Proofs.YtjobgobeiiakgaaDoor
