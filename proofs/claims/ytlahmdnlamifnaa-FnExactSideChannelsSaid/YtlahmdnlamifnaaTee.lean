/- A region that draws its order, whose reads (the chain) stand ahead of one operation that makes memory, while few other reads may stand before or behind it: the chain may be taken in one order. -/
import Derived.StillTail
namespace Go.Proofs.Ytlahmdnlamifnaa
set_option linter.unusedSimpArgs false
set_option linter.unusedVariables false
open Go
section
variable {P : Program} {ops : Array Oper} {md : Region.Mode} {w : World} {Q : Exit → Act → World → Prop}

def allL (ch : List Nat) (listed : Array Bool) : Prop := ∀ j ∈ ch, listed.getD j false = true
def Lc (P : Program) (md : Region.Mode) (ops : Array Oper) (w : World) (Q : Exit → Act → World → Prop) (T : List Nat) : Nat → Array Bool → Act → Prop
  | 0, listed, a => wpAny P md ops Q 0 listed a w
  | f + 1, listed, a => wpAny P md ops Q (f + 1) listed a w ∧ ∀ j ∈ Region.ready md ops listed, j ∈ T → stOp P ops w j (Lc P md ops w Q T f (listed.setIfInBounds j true)) a
open Classical in
noncomputable def wpT (P : Program) (md : Region.Mode) (ops : Array Oper) (w : World) (Q : Exit → Act → World → Prop) (ch T : List Nat) : Nat → Array Bool → Act → Prop
  | 0, listed, a => Lc P md ops w Q T 0 listed a
  | f + 1, listed, a => if allL ch listed then Lc P md ops w Q T (f + 1) listed a else
      Region.ready md ops listed ≠ [] ∧ ∀ i ∈ Region.ready md ops listed, (i ∈ ch ∨ i ∈ T) ∧ stOp P ops w i (wpT P md ops w Q ch T f (listed.setIfInBounds i true)) a

theorem any_of_Lc {T : List Nat} : ∀ {f : Nat} {listed : Array Bool} {a : Act}, Lc P md ops w Q T f listed a → wpAny P md ops Q f listed a w
  | 0, _, _, h => h
  | _ + 1, _, _, h => h.1
theorem any_of_T {ch T : List Nat} : ∀ (f : Nat) (listed : Array Bool) (a : Act), wpT P md ops w Q ch T f listed a → wpAny P md ops Q f listed a w
  | 0, _, _, h => h
  | f + 1, listed, a, h => by
    unfold wpT at h
    split at h
    · exact any_of_Lc h
    · exact ⟨fun h0 => absurd h0 h.1, fun i hi => wpOp_of_stOp (fun a' h' => any_of_T f _ a' h') (h.2 i hi).2⟩
theorem T_of_Lc {ch T : List Nat} {f : Nat} {listed : Array Bool} {a : Act} (ha : allL ch listed) (h : Lc P md ops w Q T f listed a) : wpT P md ops w Q ch T f listed a := by
  cases f with
  | zero => exact h
  | succ f => unfold wpT; rw [if_pos ha]; exact h
theorem allL_set {ch : List Nat} {listed : Array Bool} {j : Nat} (h : allL ch listed) : allL ch (listed.setIfInBounds j true) := fun k hk => getD_set_true (h k hk)

/-- Reached sets are closed under what an operation waits for. -/
def Closed (md : Region.Mode) (ops : Array Oper) (listed : Array Bool) : Prop := ∀ j o, listed.getD j false = true → ops[j]? = some o → ∀ e ∈ o.after, Region.binds md e = true → listed.getD e.on false = true

theorem wpT_first {ch T : List Nat} {i : Nat} {oi : Oper} {v : Value} (hi : ops[i]? = some oi) (hsel : ∀ (j : Nat) (o : Oper) cs b, ops[j]? = some o → o.op ≠ .select cs b) (hic : i ∈ ch)
    (hsrc : ∀ listed, Closed md ops listed → listed.getD i true = false → ∀ j ∈ Region.ready md ops listed, j ∈ ch ∨ j ∈ T)
    (hcl : ∀ listed, Closed md ops listed → ∀ j ∈ Region.ready md ops listed, Closed md ops (listed.setIfInBounds j true)) :
    ∀ (f : Nat) (listed : Array Bool) (a : Act), Closed md ops listed →
      (∀ j oj, ops[j]? = some oj → j ≠ i → listed.getD j true = false → (∀ e ∈ oj.after, Region.binds md e = true → e.on ≠ i) → oi.apart ops oj = true) →
      i ∈ Region.ready md ops listed → YieldsAt P ops w oi v a →
      wpT P md ops w Q ch T f (listed.setIfInBounds i true) (a.put oi.dst v) → wpT P md ops w Q ch T (f + 1) listed a := by
  intro f
  induction f with
  | zero =>
    intro listed a inv _ hr hy H
    have hun := (mem_ready.1 hr).1
    have hna : ¬ allL ch listed := fun h => by have := h i hic; rw [getD_both hun] at this; cases this
    unfold wpT
    rw [if_neg hna]
    refine ⟨fun h => (by rw [h] at hr; cases hr), fun j hj => ⟨hsrc _ inv hun j hj, ?_⟩⟩
    by_cases hji : j = i
    · subst hji; exact hy.stOp hi H
    · have h0 : Region.ready md ops (listed.setIfInBounds i true) = [] := H.1
      have := ready_mono hj hji
      rw [h0] at this
      cases this
  | succ f ih =>
    intro listed a inv hfree hr hy H
    have hun := (mem_ready.1 hr).1
    have hna : ¬ allL ch listed := fun h => by have := h i hic; rw [getD_both hun] at this; cases this
    unfold wpT
    rw [if_neg hna]
    refine ⟨fun h => (by rw [h] at hr; cases hr), fun j hj => ⟨hsrc _ inv hun j hj, ?_⟩⟩
    by_cases hji : j = i
    · subst hji; exact hy.stOp hi H
    · obtain ⟨hjun, oj, hoj, hall⟩ := mem_ready.1 hj
      have h1 : stOp P ops w j (wpT P md ops w Q ch T f ((listed.setIfInBounds i true).setIfInBounds j true)) (a.put oi.dst v) := by
        unfold wpT at H
        split at H
        · rename_i ha
          have hjT : j ∈ T := by
            rcases hsrc _ inv hun j hj with h | h
            · exfalso
              have h2 := ha j h
              have h3 : (listed.setIfInBounds i true).getD j true = false := by rw [getD_set_ne true (Ne.symm hji)]; exact hjun
              rw [getD_both h3] at h2
              cases h2
            · exact h
          exact stOp_mono (fun a' h' => T_of_Lc (allL_set ha) h') (H.2 j (ready_mono hj hji) hjT)
        · exact (H.2 j (ready_mono hj hji)).2
      have hnot : ∀ e ∈ oj.after, Region.binds md e = true → e.on ≠ i := fun e he hb heq => by
        have h1 := hall e he hb
        rw [heq, getD_both hun] at h1
        cases h1
      have h2 := stOp_put hoj (hfree j oj hoj hji hjun hnot) (fun cs b => hsel i oi cs b hi) (fun cs b => hsel j oj cs b hoj) hy h1
      have hfree' : ∀ k ok, ops[k]? = some ok → k ≠ i → (listed.setIfInBounds j true).getD k true = false →
          (∀ e ∈ ok.after, Region.binds md e = true → e.on ≠ i) → oi.apart ops ok = true := fun k ok hk hki hun hno => by
        refine hfree k ok hk hki ?_ hno
        by_cases hjk : j = k
        · subst hjk; exact hjun
        · rw [getD_set_ne true hjk] at hun; exact hun
      refine stOp_mono (fun a' h3 => ih (listed.setIfInBounds j true) a' (hcl _ inv j hj) hfree' (ready_mono hr (Ne.symm hji)) h3.1 ?_) h2
      rw [Array.setIfInBounds_comm _ _ hji]
      exact h3.2

theorem closed_set {listed : Array Bool} (h : Closed md ops listed) {j : Nat} (hj : j ∈ Region.ready md ops listed) : Closed md ops (listed.setIfInBounds j true) := by
  intro k o hk ho e he hb
  obtain ⟨_, oj, hoj, hall⟩ := mem_ready.1 hj
  by_cases hkj : j = k
  · subst hkj
    rw [ho] at hoj
    cases hoj
    exact getD_set_true (hall e he hb)
  · refine getD_set_true (h k o ?_ ho e he hb)
    rw [Array.getD_eq_getD_getElem?, Array.getElem?_setIfInBounds_ne hkj, ← Array.getD_eq_getD_getElem?] at hk
    exact hk
theorem getD_replicate_false' (m k : Nat) : (Array.replicate m false).getD k false = false := by
  rw [Array.getD_eq_getD_getElem?, Array.getElem?_replicate]; split <;> rfl
theorem closed_none (m : Nat) : Closed md ops (Array.replicate m false) := by
  intro k o hk
  rw [getD_replicate_false'] at hk
  cases hk

/-- Operation j waits for i, at once or through others. -/
def waitsB (md : Region.Mode) (ops : Array Oper) (i : Nat) : Nat → Nat → Bool
  | 0, _ => false
  | f + 1, j => match ops[j]? with
    | none => false
    | some o => o.after.any fun e => Region.binds md e && (e.on == i || waitsB md ops i f e.on)
theorem waits_listed {listed : Array Bool} (h : Closed md ops listed) {i : Nat} : ∀ (f j : Nat), waitsB md ops i f j = true → (∀ o, ops[j]? = some o → ∀ e ∈ o.after, Region.binds md e = true → listed.getD e.on false = true) → listed.getD i false = true := by
  intro f
  induction f with
  | zero => intro j hw; cases hw
  | succ f ih =>
    intro j hw hd
    unfold waitsB at hw
    split at hw
    · cases hw
    · rename_i o ho
      rw [Array.any_eq_true'] at hw
      obtain ⟨e, he, hx⟩ := hw
      rw [Bool.and_eq_true, Bool.or_eq_true] at hx
      obtain ⟨hb, hx⟩ := hx
      have h1 := hd o ho e he hb
      rcases hx with hx | hx
      · have : e.on = i := by simpa using hx
        rw [this] at h1; exact h1
      · exact ih e.on hx (fun o' ho' e' he' hb' => h e.on o' h1 ho' e' he' hb')
theorem src_of {ch T : List Nat} {i f : Nat} (hB : (List.range ops.size).all (fun j => ch.contains j || T.contains j || waitsB md ops i f j) = true) :
    ∀ listed, Closed md ops listed → listed.getD i true = false → ∀ j ∈ Region.ready md ops listed, j ∈ ch ∨ j ∈ T := by
  intro listed hc hun j hj
  obtain ⟨_, o, ho, hall⟩ := mem_ready.1 hj
  have hlt : j < ops.size := (Array.getElem?_eq_some_iff.1 ho).1
  have h := List.all_eq_true.1 hB j (List.mem_range.2 hlt)
  rw [Bool.or_eq_true, Bool.or_eq_true] at h
  rcases h with (h | h) | h
  · exact .inl (by simpa using h)
  · exact .inr (by simpa using h)
  · exfalso
    have h1 := waits_listed hc f j h (fun o' ho' => by rw [ho] at ho'; cases ho'; exact hall)
    rw [getD_both hun] at h1
    cases h1

theorem wpT_step {ch T : List Nat} {i : Nat} {oi : Oper} (hi : ops[i]? = some oi) (hsel : Region.noSelect ops = true) (hic : i ∈ ch) (g : Nat)
    (hB : (List.range ops.size).all (fun j => ch.contains j || T.contains j || waitsB md ops i g j) = true) (f : Nat) (listed : Array Bool) (a : Act) (inv : Closed md ops listed)
    (hf : Region.free md ops listed i = true) (hr : (Region.ready md ops listed).contains i = true)
    (h : stOp P ops w i (wpT P md ops w Q ch T f (listed.setIfInBounds i true)) a) : wpT P md ops w Q ch T (f + 1) listed a := by
  obtain ⟨v, hy, hK⟩ := yieldsAt_of_stOp hi h
  exact wpT_first hi (Region.noSelect_spec hsel) hic (src_of hB) (fun l h j hj => closed_set h hj) f listed a inv (Region.free_spec hi hf) (by simpa using hr) hy hK
theorem wp_region_T {id : Nat} {a : Act} {ch T : List Nat} (hm : P.follows .mixedOrders = true)
    (h : wpT P .any ops { w with drawn := w.drawn + 1 } Q ch T ops.size (Array.replicate ops.size false) a) : (Code.region id ops true).wp P Q a w :=
  wp_region_any hm (any_of_T _ _ _ h)
end

section
variable {P : Program} {ops : Array Oper} {md : Region.Mode} {w : World} {Q : Exit → Act → World → Prop}
def closedB (md : Region.Mode) (ops : Array Oper) (listed : Array Bool) : Bool :=
  (List.range ops.size).all fun j => !listed.getD j false || (match ops[j]? with | some o => o.after.all (fun e => !Region.binds md e || listed.getD e.on false) | none => true)
theorem closedB_spec {listed : Array Bool} (h : closedB md ops listed = true) : Closed md ops listed := by
  intro j o hj ho e he hb
  have h1 := List.all_eq_true.1 h j (List.mem_range.2 (Array.getElem?_eq_some_iff.1 ho).1)
  rw [hj, ho] at h1
  have h2 : o.after.all (fun e => !Region.binds md e || listed.getD e.on false) = true := by rw [Bool.not_true, Bool.false_or] at h1; exact h1
  have h3 := Array.all_eq_true'.1 h2 e he
  rw [hb, Bool.not_true, Bool.false_or] at h3
  exact h3
def lexT (md : Region.Mode) (ops : Array Oper) (ch T : List Nat) : Nat → Nat → Array Bool → Bool
  | 0, _, _ => true
  | f + 1, k, listed => (Region.ready md ops listed).contains k && Region.free md ops listed k && ch.contains k &&
      (List.range ops.size).all (fun j => ch.contains j || T.contains j || waitsB md ops k ops.size j) && lexT md ops ch T f (k + 1) (listed.setIfInBounds k true)
def setAll : Nat → Nat → Array Bool → Array Bool
  | 0, _, listed => listed
  | n + 1, k, listed => setAll n (k + 1) (listed.setIfInBounds k true)
theorem wpT_lex {ch T : List Nat} {f : Nat} (hsel : Region.noSelect ops = true) : ∀ (l : List Oper) (k : Nat) (listed : Array Bool) (a : Act), (∀ j, j < l.length → l[j]? = ops[k + j]?) → Closed md ops listed →
    lexT md ops ch T l.length k listed = true → wpStill P ops w (fun a' => wpT P md ops w Q ch T f (setAll l.length k listed) a') l a → wpT P md ops w Q ch T (f + l.length) listed a
  | [], _, _, _, _, _, _, h => h
  | o :: l, k, listed, a, hl, inv, hB, h => by
    have h0 : ops[k]? = some o := by simpa using (hl 0 (by simp)).symm
    simp only [List.length_cons, lexT, Bool.and_eq_true] at hB
    obtain ⟨⟨⟨⟨hr, hf⟩, hc⟩, hs⟩, hB'⟩ := hB
    have hst : stOp P ops w k (wpStill P ops w (fun a' => wpT P md ops w Q ch T f (setAll (l.length + 1) k listed) a') l) a := by unfold stOp; simp only [h0]; exact h
    rw [List.length_cons, ← Nat.add_assoc]
    refine wpT_step h0 hsel (by simpa using hc) ops.size hs (f + l.length) listed a inv hf hr (stOp_mono (fun a' h' => ?_) hst)
    exact wpT_lex hsel l (k + 1) _ a' (fun j hj => by have := hl (j + 1) (by simp; omega); simpa [Nat.add_assoc, Nat.add_comm 1 j] using this) (closed_set inv (by simpa using hr)) hB' h'
/-- The chain in order of the text: what is left is told by Lc. -/
theorem wpAny_chain {l0 : List Oper} {T : List Nat} {listed : Array Bool} {a : Act} (n0 len f : Nat) (hlen : len ≤ (l0.drop n0).length) (hB : (Region.noSelect l0.toArray && closedB md l0.toArray listed && lexT md l0.toArray (List.range' n0 len) T len n0 listed) = true)
    (hall : (List.range' n0 len).all (fun j => (setAll len n0 listed).getD j false) = true)
    (h : wpStill P l0.toArray w (fun a' => Lc P md l0.toArray w Q T f (setAll len n0 listed) a') ((l0.drop n0).take len) a) : wpAny P md l0.toArray Q (f + len) listed a w := by
  simp only [Bool.and_eq_true] at hB
  obtain ⟨⟨hs, hc⟩, hB⟩ := hB
  have hl : ((l0.drop n0).take len).length = len := by rw [List.length_take]; omega
  refine any_of_T (ch := List.range' n0 len) (T := T) _ _ _ ?_
  have := wpT_lex (P := P) (md := md) (w := w) (Q := Q) (ch := List.range' n0 len) (T := T) (f := f) hs ((l0.drop n0).take len) n0 listed a (fun j hj => by
    rw [hl] at hj
    simp [List.getElem?_take, hj, List.getElem?_drop]) (closedB_spec hc) (by rw [hl]; exact hB) (by
    rw [hl]
    have hk : ∀ (l : List Oper) (a : Act), wpStill P l0.toArray w (fun a' => Lc P md l0.toArray w Q T f (setAll len n0 listed) a') l a → wpStill P l0.toArray w (fun a' => wpT P md l0.toArray w Q (List.range' n0 len) T f (setAll len n0 listed) a') l a := by
      intro l
      induction l with
      | nil => intro a h; exact T_of_Lc (fun j hj => List.all_eq_true.1 hall j hj) h
      | cons o l ih =>
        intro a h
        unfold wpStill at h ⊢
        split
        · rename_i hw; rw [if_pos hw] at h; exact Oper.still_mono ih h
        · rename_i hw; rw [if_neg hw] at h; exact ih _ h
    exact hk _ _ h)
  rw [hl] at this
  exact this
theorem Lc_one {t f : Nat} {T : List Nat} {listed : Array Bool} {a : Act} (hT : (decide (t < listed.size) && T.all (fun j => j == t || listed.getD j false)) = true) (h : wpAny P md ops Q (f + 2) listed a w) (h1 : stOp P ops w t (fun a' => wpAny P md ops Q (f + 1) (listed.setIfInBounds t true) a' w) a) : Lc P md ops w Q T (f + 2) listed a := by
  rw [Bool.and_eq_true, decide_eq_true_eq] at hT
  obtain ⟨ht, hT⟩ := hT
  have key : ∀ j ∈ T, j = t ∨ listed.getD j false = true := fun j hj => by
    have := List.all_eq_true.1 hT j hj
    rw [Bool.or_eq_true] at this
    exact this.imp (fun h => by simpa using h) id
  refine ⟨h, fun j hj hjt => ?_⟩
  have hju := (mem_ready.1 hj).1
  rcases key j hjt with rfl | hl
  · refine stOp_mono (fun a' h' => ⟨h', fun k hk hkt => ?_⟩) h1
    have hku := (mem_ready.1 hk).1
    exfalso
    rcases key k hkt with rfl | hl
    · rw [Array.getD_eq_getD_getElem?, Array.getElem?_setIfInBounds_self_of_lt ht] at hku
      cases hku
    · have h2 : (listed.setIfInBounds j true).getD k false = true := getD_set_true hl
      rw [getD_both hku] at h2
      cases h2
  · rw [getD_both hju] at hl; cases hl
def pick (l0 : List Oper) (is : List Nat) : List Oper := is.flatMap fun i => (l0.drop i).take 1
def seqIdxB (md : Region.Mode) (ops : Array Oper) : List Nat → Array Bool → Bool
  | [], listed => (Region.ready md ops listed).isEmpty
  | i :: r, listed => decide (i < ops.size) && decide (Region.ready md ops listed = [i]) && seqIdxB md ops r (listed.setIfInBounds i true)
theorem pick_cons {l0 : List Oper} {i : Nat} (is : List Nat) (h : i < l0.length) : pick l0 (i :: is) = l0[i] :: pick l0 is := by
  unfold pick
  rw [List.flatMap_cons, List.drop_eq_getElem_cons h, List.take_succ_cons, List.take_zero]
  rfl
theorem wpAny_idx {l0 : List Oper} : ∀ (is : List Nat) (listed : Array Bool) (a : Act) (w : World), seqIdxB md l0.toArray is listed = true → wpList P l0.toArray Q (pick l0 is) a w → wpAny P md l0.toArray Q is.length listed a w
  | [], _, _, _, hB, h => ⟨by simpa [seqIdxB] using hB, h⟩
  | i :: is, listed, a, w, hB, h => by
    simp only [seqIdxB, Bool.and_eq_true, decide_eq_true_eq] at hB
    obtain ⟨⟨hlt, hr⟩, hB⟩ := hB
    rw [pick_cons is (by simpa using hlt)] at h
    refine ⟨fun h1 => (by rw [hr] at h1; cases h1), fun k hk => ?_⟩
    rw [hr] at hk
    obtain rfl : k = i := by simpa using hk
    have h0 : l0.toArray[k]? = some l0[k] := by simp at hlt ⊢
    have hw : wpOp P l0.toArray Q k (wpList P l0.toArray Q (pick l0 is)) a w := by unfold wpOp; simp only [h0]; exact h
    exact wpOp_mono (fun a' w' h' => wpAny_idx is _ a' w' hB h') hw
theorem wpAny_two {l0 : List Oper} (i j : Nat) (is js : List Nat) (listed : Array Bool) (a : Act) (hl : is.length = js.length) (hB : (decide (i < l0.length) && decide (j < l0.length) && decide (Region.ready md l0.toArray listed = [i, j]) && seqIdxB md l0.toArray is (listed.setIfInBounds i true) && seqIdxB md l0.toArray js (listed.setIfInBounds j true)) = true)
    (h1 : wpList P l0.toArray Q (pick l0 (i :: is)) a w) (h2 : wpList P l0.toArray Q (pick l0 (j :: js)) a w) : wpAny P md l0.toArray Q (is.length + 1) listed a w := by
  simp only [Bool.and_eq_true, decide_eq_true_eq] at hB
  obtain ⟨⟨⟨⟨hi, hj⟩, hr⟩, hB1⟩, hB2⟩ := hB
  rw [pick_cons is hi] at h1
  rw [pick_cons js hj] at h2
  refine ⟨fun h => (by rw [hr] at h; cases h), fun k hk => ?_⟩
  rw [hr] at hk
  have hk' : k = i ∨ k = j := by simpa using hk
  rcases hk' with rfl | rfl
  · have h0 : l0.toArray[k]? = some l0[k] := by simp
    have hw : wpOp P l0.toArray Q k (wpList P l0.toArray Q (pick l0 is)) a w := by unfold wpOp; simp only [h0]; exact h1
    exact wpOp_mono (fun a' w' h' => wpAny_idx is _ a' w' hB1 h') hw
  · have h0 : l0.toArray[k]? = some l0[k] := by simp
    have hw : wpOp P l0.toArray Q k (wpList P l0.toArray Q (pick l0 js)) a w := by unfold wpOp; simp only [h0]; exact h2
    exact wpOp_mono (fun a' w' h' => by rw [hl]; exact wpAny_idx js _ a' w' hB2 h') hw
theorem stOp_pick {l0 : List Oper} {i : Nat} {K : Act → Prop} {a : Act} (h : i < l0.length) (hs : wpStill P l0.toArray w K (pick l0 [i]) a) : stOp P l0.toArray w i K a := by
  rw [pick_cons [] h] at hs
  have h0 : l0.toArray[i]? = some l0[i] := by simp [h]
  unfold stOp
  simp only [h0]
  exact hs
end

end Go.Proofs.Ytlahmdnlamifnaa
