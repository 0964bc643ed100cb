/- Sorted blocks of a list that are merged two by two, plain: the stable sort's passes. -/
import Derived.Test.YtjobgobeiiakgaaSym
namespace Go.Proofs.Ytjobgobeiiakgaa
set_option linter.unusedSimpArgs false
set_option linter.unusedVariables false
open Go.RowKit

/-- The places a, .., b - 1 of a list. -/
def seg (l : List Nat) (a b : Nat) : List Nat := (l.drop a).take (b - a)
theorem seg_length (l : List Nat) (a b : Nat) (hb : b ≤ l.length) : (seg l a b).length = b - a := by simp [seg]; omega
theorem seg_left (P X : List Nat) (c d : Nat) (h : d ≤ P.length) : seg (P ++ X) c d = seg P c d := by
  unfold seg
  by_cases hc : c ≤ P.length
  · rw [List.drop_append_of_le_length hc, List.take_append_of_le_length (by simp; omega)]
  · rw [show d - c = 0 by omega]; simp
theorem seg_right (P X : List Nat) (c d : Nat) (h : P.length ≤ c) : seg (P ++ X) c d = seg X (c - P.length) (d - P.length) := by
  unfold seg
  rw [List.drop_append, List.drop_of_length_le h, List.nil_append, show d - P.length - (c - P.length) = d - c by omega]
theorem seg_mid (P X S : List Nat) (a b : Nat) (ha : P.length = a) (hb : a + X.length = b) : seg (P ++ (X ++ S)) a b = X := by
  subst ha hb
  unfold seg
  rw [List.drop_left, show P.length + X.length - P.length = X.length by omega, List.take_left]
theorem seg_split (l : List Nat) (a b : Nat) (h : a ≤ b) : l = l.take a ++ (seg l a b ++ l.drop b) := by
  unfold seg
  conv => lhs; rw [← List.take_append_drop a l]
  congr 1
  conv => lhs; rw [← List.take_append_drop (b - a) (l.drop a)]
  rw [List.drop_drop, show a + (b - a) = b by omega]
theorem seg_all (l : List Nat) (n : Nat) (h : l.length ≤ n) : seg l 0 n = l := by unfold seg; rw [List.drop_zero, Nat.sub_zero, List.take_of_length_le h]
/-- The places a, .., b - 1 are sorted, and hold the numbers from a to b - 1. -/
def Sg (lt : Nat → Nat → Bool) (l : List Nat) (a b : Nat) : Prop := (seg l a b).Pairwise (RR lt) ∧ (seg l a b).Perm (List.range' a (b - a))
theorem RR.ns {lt : Nat → Nat → Bool} {l : List Nat} (h : l.Pairwise (RR lt)) : l.Pairwise (NS lt) := h.imp (fun h => h.1)
theorem Sg.merge {lt : Nat → Nat → Bool} (hsw : SW lt) {A C : List Nat} {a m b : Nat} (ham : a ≤ m) (hmb : m ≤ b) (hA : A.Pairwise (RR lt)) (pA : A.Perm (List.range' a (m - a))) (hC : C.Pairwise (RR lt)) (pC : C.Perm (List.range' m (b - m))) :
    (mrg lt A C).Pairwise (RR lt) ∧ (mrg lt A C).Perm (List.range' a (b - a)) := by
  refine ⟨mrg_pw lt (RR.trans hsw) _ A C rfl hA hC (fun x hx y hy h => ⟨hsw.asy _ _ h, .inl h⟩) (fun x hx y hy h => ⟨h, .inr ?_⟩), (mrg_perm lt _ A C rfl).trans ?_⟩
  · have h1 := List.mem_range'_1.1 (pA.mem_iff.1 hx)
    have h2 := List.mem_range'_1.1 (pC.mem_iff.1 hy)
    omega
  · refine (pA.append pC).trans ?_
    have := @List.range'_append_1 a (m - a) (b - m)
    rw [show a + (m - a) = m by omega, show m - a + (b - m) = b - a by omega] at this
    rw [this]
theorem seg_out {l l' P X Y S : List Nat} (h : l = P ++ (X ++ S)) (h' : l' = P ++ (Y ++ S)) (hXY : X.length = Y.length) (c d : Nat) (hcd : d ≤ P.length ∨ P.length + X.length ≤ c) : seg l' c d = seg l c d := by
  subst h h'
  rcases hcd with h | h
  · rw [seg_left _ _ _ _ h, seg_left _ _ _ _ h]
  · rw [← List.append_assoc, ← List.append_assoc, seg_right _ _ _ _ (by simp; omega), seg_right _ _ _ _ (by simp; omega)]
    simp [hXY]
theorem seg_two (l : List Nat) (a m b : Nat) (ham : a ≤ m) (hmb : m ≤ b) : l = l.take a ++ (seg l a m ++ (seg l m b ++ l.drop b)) := by
  conv => lhs; rw [seg_split l a m ham]
  congr 2
  unfold seg
  conv => lhs; rw [← List.take_append_drop (b - m) (l.drop m)]
  rw [List.drop_drop, show m + (b - m) = b by omega]
theorem perm_len {l : List Nat} {n : Nat} (h : l.Perm (List.range n)) : l.length = n := by rw [h.length_eq, List.length_range]
theorem perm_lt {l : List Nat} {n : Nat} (h : l.Perm (List.range n)) : ∀ x ∈ l, x < n := fun x hx => List.mem_range.1 (h.mem_iff.1 hx)
theorem insR_perm (lt : Nat → Nat → Bool) (a : Nat) (l : List Nat) (k : Nat) (h : k = 0 ∨ a + k < l.length) : (insR lt a l k).Perm l := by
  induction k with
  | zero => exact List.Perm.refl _
  | succ k ih =>
    rw [insR]
    exact (bub_perm _ _ _ _ (by rw [insR_length]; omega)).trans (ih (by omega))
/-- Where a pass stands: blocks of 2s are sorted ahead of a, blocks of s from a on. -/
def Pss (lt : Nat → Nat → Bool) (n s a : Nat) (l : List Nat) : Prop :=
  l.Perm (List.range n) ∧ 2 * s ∣ a ∧ (∀ c, c < n → 2 * s ∣ c → c < a → Sg lt l c (min (c + 2 * s) n)) ∧ (∀ c, c < n → s ∣ c → a ≤ c → Sg lt l c (min (c + s) n))
theorem dvd_at {s a c : Nat} (h1 : s ∣ a) (h2 : s ∣ c) (h3 : a ≤ c) (h4 : c < a + s) : c = a := by
  have := Nat.eq_zero_of_dvd_of_lt (Nat.dvd_sub h2 h1) (by omega)
  omega
/-- One merge of two blocks, the second of which may be short. -/
theorem Pss.step {lt : Nat → Nat → Bool} (hsw : SW lt) {n s a b : Nat} {l : List Nat} (H : Pss lt n s a l) (hs : 1 ≤ s) (hb : b = min (a + 2 * s) n) (hab : a + s < b) :
    Pss lt n s (a + 2 * s) (l.take a ++ (mrg lt (seg l a (a + s)) (seg l (a + s) b) ++ l.drop b)) := by
  obtain ⟨hp, hd, h1, h2⟩ := H
  have hl := perm_len hp
  have hsa : s ∣ a := Nat.dvd_trans ⟨2, by omega⟩ hd
  have s1 := h2 a (by omega) hsa (Nat.le_refl _)
  have s2 := h2 (a + s) (by omega) (Nat.dvd_add hsa (Nat.dvd_refl _)) (by omega)
  rw [show min (a + s) n = a + s by omega] at s1
  rw [show min (a + s + s) n = b by omega] at s2
  have e := seg_two l a (a + s) b (by omega) (by omega)
  rw [← List.append_assoc (seg l a (a + s))] at e
  have hlen : (seg l a (a + s) ++ seg l (a + s) b).length = b - a := by
    rw [List.length_append, seg_length _ _ _ (by omega), seg_length _ _ _ (by omega)]; omega
  have hml : (mrg lt (seg l a (a + s)) (seg l (a + s) b)).length = b - a := by rw [(mrg_perm lt _ _ _ rfl).length_eq, hlen]
  have hta : (l.take a).length = a := by simp; omega
  have hM := Sg.merge hsw (show a ≤ a + s by omega) (show a + s ≤ b by omega) s1.1 s1.2 s2.1 s2.2
  have hout := fun c d => seg_out e rfl (hlen.trans hml.symm) c d
  rw [hta, hlen] at hout
  refine ⟨?_, Nat.dvd_add hd (Nat.dvd_refl _), fun c hc hcd hca => ?_, fun c hc hcd hca => ?_⟩
  · refine List.Perm.trans ?_ hp
    conv => rhs; rw [e]
    exact List.Perm.append_left _ (List.Perm.append_right _ (mrg_perm lt _ _ _ rfl))
  · by_cases h : c < a
    · have := h1 c hc hcd h
      have hle : c + 2 * s ≤ a := by
        by_cases hx : c + 2 * s ≤ a
        · exact hx
        · have := dvd_at hcd hd (by omega) (by omega)
          omega
      unfold Sg
      rw [hout _ _ (.inl (by omega))]
      exact this
    · obtain rfl : c = a := dvd_at hd hcd (by omega) (by omega)
      unfold Sg
      rw [← hb, seg_mid _ _ _ _ _ hta (by rw [hml]; omega)]
      exact hM
  · unfold Sg
    rw [hout _ _ (.inr (by omega))]
    exact h2 c hc hcd (by omega)
/-- A pass that has come to its end. -/
theorem Pss.fin {lt : Nat → Nat → Bool} {n s a : Nat} {l : List Nat} (H : Pss lt n s a l) (hb : n < a + 2 * s) (hm : n ≤ a + s) : Pss lt n (2 * s) 0 l := by
  obtain ⟨hl, hd, h1, h2⟩ := H
  refine ⟨hl, Nat.dvd_zero _, fun c hc hcd hca => by omega, fun c hc hcd hca => ?_⟩
  by_cases h : c < a
  · exact h1 c hc hcd h
  · obtain rfl : c = a := dvd_at hd hcd (by omega) (by omega)
    have := h2 c hc (Nat.dvd_trans ⟨2, by omega⟩ hd) (Nat.le_refl _)
    rw [show min (c + s) n = n by omega] at this
    rw [show min (c + 2 * s) n = n by omega]
    exact this
/-- What a sorted list of the numbers below n is. -/
theorem sg_ordX {lt : Nat → Nat → Bool} (hsw : SW lt) {n : Nat} {l : List Nat} (hl : l.length = n) (H : Sg lt l 0 n) : l = ordX lt id n := by
  rw [Sg, seg_all l n (by omega)] at H
  obtain ⟨h1, h2⟩ := H
  have h3 : (ordX lt id n).Pairwise (RR lt) := by
    rw [List.pairwise_iff_getElem]
    intro i j hi hj hij
    have := ordX_srt hsw id (fun _ _ h => h) n i j hij hj
    rw [List.getElem?_eq_getElem hi, List.getElem?_eq_getElem hj] at this
    exact this
  have h4 : (ordX lt id n).Perm (List.range n) := by
    have := ordX_perm lt id n
    rwa [List.map_id] at this
  rw [Nat.sub_zero, ← List.range_eq_range'] at h2
  refine List.Perm.eq_of_pairwise (le := RR lt) (fun x y _ _ a b => ?_) h1 h3 (h2.trans h4.symm)
  rcases a.2 with a2 | a2
  · rw [b.1] at a2; cases a2
  · rcases b.2 with b2 | b2
    · rw [a.1] at b2; cases b2
    · omega
theorem Pss.all {lt : Nat → Nat → Bool} (hsw : SW lt) {n s : Nat} {l : List Nat} (H : Pss lt n s 0 l) (hn : 1 ≤ n) (hs : n ≤ s) : l = ordX lt id n := by
  obtain ⟨hp, hd, h1, h2⟩ := H
  refine sg_ordX hsw (perm_len hp) ?_
  have := h2 0 (by omega) (Nat.dvd_zero _) (Nat.le_refl _)
  rw [show min (0 + s) n = n by omega] at this
  exact this
/-- Where the first pass stands: blocks of s are sorted ahead of a, and from a on nothing has moved. -/
def Fst (lt : Nat → Nat → Bool) (n s a : Nat) (l : List Nat) : Prop :=
  l.Perm (List.range n) ∧ s ∣ a ∧ (∀ c, c < n → s ∣ c → c < a → Sg lt l c (min (c + s) n)) ∧ l.drop a = List.range' a (n - a)
theorem Fst.start (lt : Nat → Nat → Bool) (n s : Nat) : Fst lt n s 0 (List.range n) :=
  ⟨List.Perm.refl _, Nat.dvd_zero _, fun c _ _ h => by omega, by rw [List.drop_zero, Nat.sub_zero, List.range_eq_range']⟩
theorem Fst.step {lt : Nat → Nat → Bool} (hsw : SW lt) {n s a b : Nat} {l : List Nat} (H : Fst lt n s a l) (hs : 1 ≤ s) (hb : b = min (a + s) n) (hab : a < b) :
    Fst lt n s (a + s) (insR lt a l (b - a - 1)) := by
  obtain ⟨hp, hd, h1, h2⟩ := H
  have hl := perm_len hp
  have e := seg_split l a b (by omega)
  have hta : (l.take a).length = a := by simp; omega
  have hsl : (seg l a b).length = b - a := seg_length _ _ _ (by omega)
  have hX : seg l a b = List.range' a (b - a) := by
    unfold seg
    rw [h2, List.take_range'_of_length_ge (by omega)]
  have hins : insR lt a l (b - a - 1) = l.take a ++ (ordX lt (fun i => a + i) (b - a) ++ l.drop b) := by
    have := insR_seg lt (l.take a) (seg l a b) (l.drop b) (b - a - 1) (by omega)
    rw [hta, List.append_assoc, ← e, insR_ordX _ _ _ (by omega), show b - a - 1 + 1 = b - a by omega, List.drop_of_length_le (by omega), List.append_nil, List.append_assoc] at this
    rw [this]
    congr 2
    rw [hX]
    clear this
    have hc : ∀ (f g : Nat → Nat) k, (∀ i, i < k → f i = g i) → ordX lt f k = ordX lt g k := by
      intro f g k
      induction k with
      | zero => intro _; rfl
      | succ k ih => intro hfg; rw [ordX, ordX, ih (fun i hi => hfg i (by omega)), hfg k (by omega)]
    refine hc _ _ _ (fun i hi => ?_)
    rw [List.getElem?_eq_getElem (by simpa using hi), Option.getD_some, List.getElem_range']
    omega
  have hol := ordX_length lt (fun i => a + i) (b - a)
  have hout := fun c d => seg_out e hins (hsl.trans hol.symm) c d
  rw [hta, hsl] at hout
  have hS : Sg lt (insR lt a l (b - a - 1)) a b := by
    unfold Sg
    rw [hins, seg_mid _ _ _ _ _ hta (by rw [hol]; omega)]
    refine ⟨?_, ?_⟩
    · rw [List.pairwise_iff_getElem]
      intro i j hi hj hij
      have := ordX_srt hsw (fun i => a + i) (fun _ _ h => by omega) (b - a) i j hij hj
      rw [List.getElem?_eq_getElem hi, List.getElem?_eq_getElem hj] at this
      exact this
    · refine (ordX_perm lt _ _).trans ?_
      rw [List.range_eq_range', List.map_add_range', Nat.add_zero]
  refine ⟨(insR_perm _ _ _ _ (by omega)).trans hp, Nat.dvd_add hd (Nat.dvd_refl _), fun c hc hcd hca => ?_, ?_⟩
  · by_cases h : c < a
    · have hle : c + s ≤ a := by
        by_cases hx : c + s ≤ a
        · exact hx
        · have := dvd_at hcd hd (by omega) (by omega)
          omega
      unfold Sg
      rw [hout _ _ (.inl (by omega))]
      exact h1 c hc hcd h
    · obtain rfl : c = a := dvd_at hd hcd (by omega) (by omega)
      rw [← hb]
      exact hS
  · rw [hins]
    by_cases hbn : a + s ≤ n
    · obtain rfl : b = a + s := by omega
      rw [List.drop_append, List.drop_of_length_le (by omega), List.nil_append, hta, List.drop_append, List.drop_of_length_le (by omega), List.nil_append, hol, List.drop_drop,
        show a + s + (a + s - a - (a + s - a)) = a + s by omega]
      have := congrArg (List.drop s) h2
      rw [List.drop_drop, List.drop_range'] at this
      rw [this]
      congr 1 <;> omega
    · rw [List.drop_of_length_le (by simp [hol]; omega), show n - (a + s) = 0 by omega]
      rfl
theorem Fst.fin {lt : Nat → Nat → Bool} {n s a : Nat} {l : List Nat} (H : Fst lt n s a l) (hn : n ≤ a) : Pss lt n s 0 l :=
  ⟨H.1, Nat.dvd_zero _, fun c _ _ h => by omega, fun c hc hcd _ => H.2.2.1 c hc hcd (by omega)⟩

end Go.Proofs.Ytjobgobeiiakgaa
