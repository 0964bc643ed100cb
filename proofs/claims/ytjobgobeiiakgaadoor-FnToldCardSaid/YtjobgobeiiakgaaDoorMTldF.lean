/- Fronts, runs and numbers lead back, plain. -/
import Derived.Test.YtjobgobeiiakgaaDoorMFrt2
import Derived.Test.YtjobgobeiiakgaaDoorMBld
import Derived.Test.YtjobgobeiiakgaaDoorMRun3
import Derived.Test.YtjobgobeiiakgaaDoorMNobE
import Derived.Test.YtjobgobeiiakgaaDoorMNob6
namespace Go.Proofs.YtjobgobeiiakgaaDoor
set_option linter.unusedSimpArgs false
set_option linter.unusedVariables false
open Go.RowKit
theorem inB_of {n lo hi : Int} (h1 : lo ≤ n) (h2 : n ≤ hi) : inB n lo hi = true := decide_eq_true ⟨h1, h2⟩

/-- The places that are told for the first letters stay. -/
theorem frSt_get (ls : List Int) (n k : Nat) : ∀ m, k < m → (frSt ls n m).2[k]? = some (((frSt ls n k).1.idxOf (ls[k]?.getD 0) : Nat) : Int) := by
  intro m hm
  induction m with
  | zero => omega
  | succ m ih =>
    rw [frSt]
    by_cases h : k = m
    · subst h
      rw [List.getElem?_append_right (by rw [frSt_len2]; omega), frSt_len2, Nat.sub_self]
      rfl
    · rw [List.getElem?_append_left (by rw [frSt_len2]; omega)]
      exact ih (by omega)
theorem fr_idx {ls : List Int} {n : Nat} (h : ls.all (fun x => inB x 0 ((n : Int) - 1)) = true) {k : Nat} (hk : k < ls.length) : (frSt ls n k).1.idxOf (ls[k]?.getD 0) < n ∧ (frSt ls n k).1[(frSt ls n k).1.idxOf (ls[k]?.getD 0)]?.getD 0 = ls[k]?.getD 0 := by
  obtain ⟨h1, h2⟩ := inB_get h (k := k) hk
  obtain ⟨i1, i2⟩ := frSt_ok ls n h k (by omega)
  have hm := i2 (ls[k]?.getD 0) h1 (by omega)
  have hl := List.idxOf_lt_length_of_mem hm
  refine ⟨by omega, ?_⟩
  rw [List.getElem?_eq_getElem hl, Option.getD_some]
  exact List.getElem_idxOf hl
/-- The way back from places. -/
theorem bk_fr {ls : List Int} {n : Nat} (h : ls.all (fun x => inB x 0 ((n : Int) - 1)) = true) : ∀ k, k ≤ ls.length → bkSt (frSt ls n ls.length).2 n k = ((frSt ls n k).1, ls.take k)
  | 0, _ => rfl
  | k + 1, hk => by
    have ih := bk_fr h k (by omega)
    obtain ⟨h1, h2⟩ := fr_idx h (k := k) (by omega)
    rw [bkSt, ih, frSt_get ls n k ls.length (by omega)]
    simp only [Option.getD_some, Int.toNat_natCast]
    rw [frSt, h2, List.take_succ_eq_append_getElem (by omega), List.getElem?_eq_getElem (by omega)]
    rfl
/-- What the law asks of fronts. -/
theorem front_told {ls : List Int} {n : Nat} (hn : 1 ≤ n) (hn2 : n ≤ 16) (hl : ls.length ≤ 512) (h : ∀ x ∈ ls, 0 ≤ x ∧ x < (n : Int)) : ∃ ps : List Int, out_FrontOf ls n = (ps, true) ∧ ps.length = ls.length ∧ (∀ x ∈ ps, 0 ≤ x ∧ x < (n : Int)) ∧ out_BackOfFront ps n = (ls, true) ∧
    ∀ k, k + 1 < ls.length → (decide (ps[k + 1]?.getD 0 = 0) = decide (ls[k + 1]?.getD 0 = ls[k]?.getD 0)) := by
  have ha : ls.all (fun x => inB x 0 ((n : Int) - 1)) = true := by
    rw [List.all_eq_true]
    intro x hx
    have := h x hx
    exact inB_of (by omega) (by omega)
  have hfr : frOk ls n = true := by
    unfold frOk
    rw [ha, decide_eq_true hl]
    rw [inB_of (show (1 : Int) ≤ n by omega) (show (n : Int) ≤ 16 by omega)]
    rfl
  have hpl := frSt_len2 ls n ls.length
  have hpx : ∀ x ∈ (frSt ls n ls.length).2, 0 ≤ x ∧ x < (n : Int) := fun x hx => by
    obtain ⟨k, hk, rfl⟩ := List.mem_iff_getElem.1 hx
    have hg := frSt_get ls n k ls.length (by omega)
    rw [List.getElem?_eq_getElem hk] at hg
    rw [Option.some.inj hg]
    have := (fr_idx ha (k := k) (by omega)).1
    omega
  have hpa : (frSt ls n ls.length).2.all (fun x => inB x 0 ((n : Int) - 1)) = true := by
    rw [List.all_eq_true]
    intro x hx
    have := hpx x hx
    exact inB_of (by omega) (by omega)
  have hfp : frOk (frSt ls n ls.length).2 n = true := by
    unfold frOk
    rw [hpa, decide_eq_true (show (frSt ls n ls.length).2.length ≤ 512 by omega)]
    rw [inB_of (show (1 : Int) ≤ n by omega) (show (n : Int) ≤ 16 by omega)]
    rfl
  refine ⟨(frSt ls n ls.length).2, by unfold out_FrontOf; rw [if_pos hfr, Int.toNat_natCast], hpl, hpx, ?_, ?_⟩
  · unfold out_BackOfFront
    rw [if_pos hfp, Int.toNat_natCast, hpl, bk_fr ha _ (Nat.le_refl _), List.take_length]
  · intro k hk
    rw [frSt_get ls n (k + 1) ls.length hk, Option.getD_some, decide_eq_decide]
    have h0 : (frSt ls n (k + 1)).1[0]?.getD 0 = ls[k]?.getD 0 := by
      rw [frSt]
      exact (fr_idx ha (k := k) (by omega)).2
    have hid := (fr_idx ha (k := k + 1) hk).2
    have hlen := (frSt_ok ls n ha (k + 1) (by omega)).1
    constructor
    · intro e
      have e0 : (frSt ls n (k + 1)).1.idxOf (ls[k + 1]?.getD 0) = 0 := by omega
      rw [e0, h0] at hid
      exact hid.symm
    · intro e
      have : (frSt ls n (k + 1)).1.idxOf (ls[k + 1]?.getD 0) = 0 := by
        cases hq : (frSt ls n (k + 1)).1 with
        | nil => rw [hq] at hlen; simp at hlen; omega
        | cons y r =>
          rw [hq] at h0
          have hy : y = ls[k]?.getD 0 := h0
          rw [e, ← hy]
          simp
      omega

/-- The letter of a run. -/
def ltr (b : Bool) (k : Nat) : UInt8 := if btL b k then 49 else 48
theorem runP_app (b : Bool) (ys zs : List Int) : ∀ j, j ≤ ys.length → runP b (ys ++ zs) j = runP b ys j
  | 0, _ => rfl
  | j + 1, h => by
    rw [runP, runP, runP_app b ys zs j (by omega), List.getElem?_append_left (by omega)]
/-- The runs of the first letters. -/
theorem rs_inv {l : List UInt8} (hl : ∀ c ∈ l, c = 48 ∨ c = 49) (k : Nat) (hk : k < l.length) :
    ∃ (ys : List Int) (y : Nat), rsP l (k + 1) = ys ++ [(y : Int)] ∧ 1 ≤ y ∧ (∀ x ∈ ys, 1 ≤ x) ∧ ys.sum + (y : Int) = (k : Int) + 1 ∧
      runP (decide (l[0]? = some 49)) ys ys.length ++ List.replicate y (ltr (decide (l[0]? = some 49)) ys.length) = l.take (k + 1) ∧ l[k]? = some (ltr (decide (l[0]? = some 49)) ys.length) := by
  have hg : ∀ j (hj : j < l.length), l[j] = 48 ∨ l[j] = 49 := fun j hj => hl _ (List.getElem_mem hj)
  induction k with
  | zero =>
    refine ⟨[], 1, rfl, Nat.le_refl _, fun x hx => by simp at hx, rfl, ?_, ?_⟩
    · rw [List.take_succ_eq_append_getElem hk, List.getElem?_eq_getElem hk]
      rcases hg 0 hk with h | h <;> (rw [h]; rfl)
    · rw [List.getElem?_eq_getElem hk]
      rcases hg 0 hk with h | h <;> (rw [h]; rfl)
  | succ k ih =>
    obtain ⟨ys, y, h1, h2, h3, h4, h5, h6⟩ := ih (by omega)
    obtain ⟨b, hb⟩ : ∃ b, b = decide (l[0]? = some 49) := ⟨_, rfl⟩
    rw [← hb] at h5 h6 ⊢
    rw [rsP, h1]
    by_cases hs : l[k + 1]? = l[k]?
    · rw [if_pos ⟨by omega, by rw [Nat.add_sub_cancel]; exact hs⟩]
      have e : incLast (ys ++ [(y : Int)]) = ys ++ [((y + 1 : Nat) : Int)] := by
        unfold incLast
        rw [List.length_append, List.length_singleton, Nat.add_sub_cancel, List.getElem?_append_right (Nat.le_refl _), Nat.sub_self, List.set_append_right _ _ (Nat.le_refl _), Nat.sub_self]
        simp
      refine ⟨ys, y + 1, e, by omega, h3, by omega, ?_, by rw [hs, h6]⟩
      rw [List.replicate_succ', ← List.append_assoc, h5, List.take_succ_eq_append_getElem hk]
      congr 1
      rw [h6, List.getElem?_eq_getElem hk] at hs
      rw [Option.some.inj hs]
    · rw [if_neg (fun h => hs (by have := h.2; rwa [Nat.add_sub_cancel] at this))]
      have hlt : l[k + 1]? = some (ltr b (ys.length + 1)) := by
        rw [List.getElem?_eq_getElem hk] at hs ⊢
        rw [h6] at hs
        have hne : l[k + 1] ≠ ltr b ys.length := fun e => hs (by rw [e])
        have : ltr b (ys.length + 1) = if btL b ys.length then 48 else 49 := by
          unfold ltr; rw [btL]; cases btL b ys.length <;> rfl
        rw [this]
        unfold ltr at hne
        rcases hg (k + 1) hk with h | h <;> cases hbt : btL b ys.length <;> rw [hbt] at hne <;> simp [h] at hne ⊢
      refine ⟨ys ++ [(y : Int)], 1, rfl, Nat.le_refl _, fun x hx => ?_, ?_, ?_, ?_⟩
      · rcases List.mem_append.1 hx with h | h
        · exact h3 x h
        · simp at h; omega
      · rw [List.sum_append, List.sum_singleton]; omega
      · have e2 : runP b (ys ++ [(y : Int)]) (ys ++ [(y : Int)]).length = l.take (k + 1) := by
          rw [List.length_append, List.length_singleton, runP, runP_app b ys _ _ (Nat.le_refl _), List.getElem?_append_right (Nat.le_refl _), Nat.sub_self, ← h5]
          rfl
        rw [e2, List.take_succ_eq_append_getElem hk, List.length_append, List.length_singleton]
        congr 1
        rw [List.getElem?_eq_getElem hk] at hlt
        rw [Option.some.inj hlt]; rfl
      · rw [List.length_append, List.length_singleton]; exact hlt
/-- What the law asks of runs. -/
theorem runs_told {l : List UInt8} (hl : ∀ c ∈ l, c = 48 ∨ c = 49) (h1 : 1 ≤ l.length) (h2 : l.length ≤ 512) :
    ∃ xs : List Int, out_RunsOf ⟨l.toArray⟩ = (xs, true) ∧ xs.length ≤ 512 ∧ (∀ x ∈ xs, 1 ≤ x ∧ x ≤ 512) ∧ xs.sum = (l.length : Int) ∧ out_BitsOfRuns (decide (l[0]? = some 49)) xs = (⟨l.toArray⟩, true) := by
  obtain ⟨ys, y, e1, e2, e3, e4, e5, -⟩ := rs_inv hl (l.length - 1) (by omega)
  have hb : bitsOk l = true := by
    unfold bitsOk
    rw [decide_eq_true h2, Bool.true_and, List.all_eq_true]
    intro c hc
    rcases hl c hc with h | h <;> (rw [h]; rfl)
  rw [Nat.sub_add_cancel h1] at e1 e5
  rw [List.take_length] at e5
  have hlen := rsP_length l l.length
  have hbd := rsP_bd l l.length
  rw [e1] at hlen hbd
  have hxs : ∀ x ∈ ys ++ [(y : Int)], 1 ≤ x ∧ x ≤ 512 := fun x hx => by
    have := hbd x hx
    refine ⟨?_, by omega⟩
    rcases List.mem_append.1 hx with h | h
    · exact e3 x h
    · simp at h; omega
  refine ⟨ys ++ [(y : Int)], ?_, by omega, hxs, ?_, ?_⟩
  · unfold out_RunsOf
    show (if bitsOk l = true then (rsP l l.length, true) else ([], false)) = _
    rw [if_pos hb, e1]
  · rw [List.sum_append, List.sum_singleton]; omega
  · have hok : runsOk (ys ++ [(y : Int)]) = true := by
      unfold runsOk
      rw [decide_eq_true (show (ys ++ [(y : Int)]).length ≤ 512 by omega), Bool.true_and, List.all_eq_true]
      intro x hx
      have := hxs x hx
      exact inB_of this.1 this.2
    have hr : runP (decide (l[0]? = some 49)) (ys ++ [(y : Int)]) (ys ++ [(y : Int)]).length = l := by
      rw [List.length_append, List.length_singleton, runP, runP_app _ ys _ _ (Nat.le_refl _), List.getElem?_append_right (Nat.le_refl _), Nat.sub_self]
      exact e5
    unfold out_BitsOfRuns
    rw [if_pos hok, hr, cap512_yes h2]

/-- The texts of numbers, one after another. -/
def catN (kind k : Int) : List Int → List UInt8
  | [] => []
  | v :: r => txN kind k v ++ catN kind k r
theorem catN_append (kind k : Int) (A B : List Int) : catN kind k (A ++ B) = catN kind k A ++ catN kind k B := by
  induction A with
  | nil => rfl
  | cons v A ih => rw [List.cons_append, catN, ih, catN, List.append_assoc]
theorem catN_one (kind k v : Int) : catN kind k [v] = txN kind k v := by rw [catN, catN, List.append_nil]
theorem cand_ex (kind : Nat) (k : Nat) (hkd : kind ≤ 4) (r : List UInt8) : ∃ v, Cand (kind : Int) (k : Int) r v := by
  match kind, hkd with
  | 0, _ => exact ⟨_, cand0_i _ r⟩
  | 1, _ => exact ⟨_, cand1_i _ r⟩
  | 2, _ => exact ⟨_, cand2_i _ r⟩
  | 3, _ =>
    by_cases hex : ∃ K n, n ≤ 1000000 ∧ FibAt r K n
    · obtain ⟨K, n, -, h⟩ := hex
      exact ⟨_, cand3_of _ h⟩
    · exact ⟨0, cand3_no _ hex 0⟩
  | 4, _ => exact ⟨_, cand4_i k r⟩
theorem stp_of (kind k : Nat) (hkd : kind ≤ 4) {r : List UInt8} {n : Int} (h1 : (numT kind k n).2 = true) (h2 : txN kind k n <+: r) : stp kind k r = some n := by
  obtain ⟨v, hc⟩ := cand_ex kind k hkd r
  obtain rfl := hc n h1 h2
  exact stp_some hc h1 h2
/-- Numbers whose texts follow one another are read back. -/
theorem ncN_cat (kind k : Nat) (hkd : kind ≤ 4) {vs : List Int} (hv : ∀ v ∈ vs, (numT kind k v).2 = true) : ∀ j, j ≤ vs.length → ncN kind k (catN kind k vs) j = ((catN kind k (vs.take j)).length, vs.take j) ∧ (j < vs.length → stp kind k ((catN kind k vs).drop (catN kind k (vs.take j)).length) = vs[j]?) := by
  have hst : ∀ j, j < vs.length → stp kind k ((catN kind k vs).drop (catN kind k (vs.take j)).length) = vs[j]? := fun j hj => by
    have e : catN kind k vs = catN kind k (vs.take j) ++ catN kind k (vs.drop j) := by rw [← catN_append, List.take_append_drop]
    rw [e, List.drop_left, List.drop_eq_getElem_cons hj, catN, List.getElem?_eq_getElem hj]
    exact stp_of kind k hkd (hv _ (List.getElem_mem hj)) (List.prefix_append _ _)
  intro j
  induction j with
  | zero => exact fun _ => ⟨rfl, hst 0⟩
  | succ j ih =>
    intro hj
    obtain ⟨i1, i2⟩ := ih (by omega)
    have h3 := i2 (by omega)
    refine ⟨?_, hst (j + 1)⟩
    have h4 : stp kind k ((catN kind k vs).drop (ncN kind k (catN kind k vs) j).1) = some vs[j] := by rw [i1]; rw [h3, List.getElem?_eq_getElem (by omega)]
    rw [ncN_some h4, i1, List.take_succ_eq_append_getElem (by omega), catN_append, catN_one, List.length_append]
theorem ncR_cat (kind k : Nat) (hkd : kind ≤ 4) {vs : List Int} (hv : ∀ v ∈ vs, (numT kind k v).2 = true) : ncR kind k (catN kind k vs) = (vs, true) := by
  have h := ncN_cat kind k hkd hv
  have hend := (h vs.length (Nat.le_refl _)).1
  rw [List.take_length] at hend
  rw [ncR_end (n := vs.length) (fun j hj => ⟨vs[j], by rw [(h j (by omega)).1]; rw [(h j (by omega)).2 hj, List.getElem?_eq_getElem hj]⟩) (by rw [hend]), hend]
/-- Texts of small numbers. -/
def smallB (kind k v : Nat) : Bool := (numT kind k ((v + 1 : Nat) : Int)).2 && decide (1 ≤ (txN kind k ((v + 1 : Nat) : Int)).length) && decide ((txN kind k ((v + 1 : Nat) : Int)).length ≤ 100) && (txN kind k ((v + 1 : Nat) : Int)).all (fun c => c == 48 || c == 49)
theorem small_all : ((List.range 5).all fun kind => (List.range 5).all fun k => (List.range 60).all fun v => smallB kind k v) = true := by decide +kernel
theorem small_one {kind k v : Nat} (h1 : kind ≤ 4) (h2 : k ≤ 4) (h3 : v < 60) : (numT kind k ((v + 1 : Nat) : Int)).2 = true ∧ 1 ≤ (txN kind k ((v + 1 : Nat) : Int)).length ∧ (txN kind k ((v + 1 : Nat) : Int)).length ≤ 100 ∧ ∀ c ∈ txN kind k ((v + 1 : Nat) : Int), c = 48 ∨ c = 49 := by
  have h := small_all
  rw [List.all_eq_true] at h
  have h' := h kind (List.mem_range.2 (by omega))
  rw [List.all_eq_true] at h'
  have h'' := h' k (List.mem_range.2 (by omega))
  rw [List.all_eq_true] at h''
  have h4 := h'' v (List.mem_range.2 h3)
  unfold smallB at h4
  rw [Bool.and_eq_true, Bool.and_eq_true, Bool.and_eq_true, decide_eq_true_iff, decide_eq_true_iff, List.all_eq_true] at h4
  obtain ⟨⟨⟨a, b⟩, c⟩, d⟩ := h4
  refine ⟨a, b, c, fun x hx => ?_⟩
  have := d x hx
  simpa using this
/-- Few small numbers. -/
def Smalls (vs : List Int) : Prop := ∀ v ∈ vs, ∃ x : Nat, v = ((x + 1 : Nat) : Int) ∧ x < 60
theorem catN_small {kind k : Nat} (h1 : kind ≤ 4) (h2 : k ≤ 4) {vs : List Int} (hv : Smalls vs) : (catN kind k vs).length ≤ 100 * vs.length ∧ (∀ c ∈ catN kind k vs, c = 48 ∨ c = 49) ∧ ∀ v ∈ vs, (numT kind k v).2 = true := by
  induction vs with
  | nil => exact ⟨Nat.zero_le _, (fun c (h : c ∈ ([] : List UInt8)) => by cases h), (fun v h => by cases h)⟩
  | cons v r ih =>
    obtain ⟨i1, i2, i3⟩ := ih (fun x hx => hv x (List.mem_cons_of_mem _ hx))
    obtain ⟨x, rfl, hx⟩ := hv v (List.mem_cons_self ..)
    obtain ⟨a, b, c, d⟩ := small_one h1 h2 hx
    refine ⟨by rw [catN, List.length_append, List.length_cons]; omega, fun y hy => ?_, fun y hy => ?_⟩
    · rw [catN] at hy
      rcases List.mem_append.1 hy with h | h
      · exact d y h
      · exact i2 y h
    · rcases List.mem_cons.1 hy with rfl | h
      · exact a
      · exact i3 y h
/-- What the law asks of numbers. -/
theorem numbers_told {kind k : Nat} (h1 : kind ≤ 4) (h2 : k ≤ 4) {vs : List Int} (hl : vs.length ≤ 5) (hv : Smalls vs) : bitsOk (catN kind k vs) = true ∧ ncR kind k (catN kind k vs) = (vs, true) := by
  obtain ⟨a, b, c⟩ := catN_small h1 h2 hv
  refine ⟨?_, ncR_cat kind k h1 c⟩
  unfold bitsOk
  rw [decide_eq_true (show (catN kind k vs).length ≤ 512 by omega), Bool.true_and, List.all_eq_true]
  intro x hx
  rcases b x hx with h | h <;> (rw [h]; rfl)

end Go.Proofs.YtjobgobeiiakgaaDoor
