/- Texts that are made of words in two ways: the nearest first, plain. -/
import Derived.Test.YtcgenmkgdhaejaaDoorUnq2
namespace Go.Proofs.YtcgenmkgdhaejaaDoor
set_option linter.unusedSimpArgs false
set_option linter.unusedVariables false
open Go.RowKit

/-- A rest with its text, and whether it is done. -/
abbrev Ah := (List UInt8 × List UInt8) × Bool
def HasE (M : List Ah) (r t : List UInt8) : Prop := ∃ p ∈ M, p.1.1 = r ∧ rk p.1.2 ≤ rk t
def cntD (M : List Ah) : Nat := (M.filter (·.2)).length
/-- What comes of putting x. -/
def PutR (M : List Ah) (x : List UInt8 × List UInt8) (M' : List Ah) : Prop :=
  (∃ j p, M[j]? = some p ∧ p.1.1 = x.1 ∧ ((p.2 = false ∧ bef x.2 p.1.2 = true ∧ M' = M.set j (x, false)) ∨ ((p.2 = true ∨ bef x.2 p.1.2 = false) ∧ M' = M))) ∨ ((∀ p ∈ M, p.1.1 ≠ x.1) ∧ M' = M ++ [(x, false)])
/-- The rests are other than one another. -/
def Dst (M : List Ah) : Prop := ∀ (i j : Nat) (p q : Ah), M[i]? = some p → M[j]? = some q → p.1.1 = q.1.1 → i = j
def Ord3 (M : List Ah) : Prop := ∀ p ∈ M, ∀ q ∈ M, p.2 = true → q.2 = false → rk p.1.2 ≤ rk q.1.2
def Base3 (ws : List ByteArray) (M : List Ah) : Prop := (∀ p ∈ M, Way ws p.1.1 p.1.2 ∧ p.1.2.length ≤ 32 * (cntD M + 1)) ∧ Dst M ∧ Ord3 M
theorem mem_set_ah {M : List Ah} {j : Nat} {y : Ah} (hj : j < M.length) {q : Ah} (h : q ∈ M.set j y) : q = y ∨ ∃ i, i ≠ j ∧ M[i]? = some q := by
  obtain ⟨i, hi, hq⟩ := List.getElem_of_mem h
  by_cases e : i = j
  · subst e; rw [List.getElem_set_self] at hq; exact .inl hq.symm
  · rw [List.getElem_set_ne (Ne.symm e)] at hq
    refine .inr ⟨i, e, ?_⟩
    rw [List.length_set] at hi
    rw [List.getElem?_eq_getElem hi, hq]
theorem set_mem_ah {M : List Ah} {j i : Nat} {y q : Ah} (hij : i ≠ j) (h : M[i]? = some q) : q ∈ M.set j y := by
  have : (M.set j y)[i]? = some q := by rw [List.getElem?_set_ne (Ne.symm hij)]; exact h
  exact List.mem_of_getElem? this
theorem cnt_set {M : List Ah} : ∀ {j : Nat} {p y : Ah}, M[j]? = some p → cntD (M.set j y) + (if p.2 then 1 else 0) = cntD M + (if y.2 then 1 else 0) := by
  induction M with
  | nil => intro j p y h; simp at h
  | cons a r ih =>
    intro j p y h
    unfold cntD
    cases j with
    | zero =>
      simp only [List.getElem?_cons_zero, Option.some.injEq] at h
      subst h
      rw [List.set_cons_zero, List.filter_cons, List.filter_cons]
      cases a.2 <;> cases y.2 <;> simp
    | succ j =>
      simp only [List.getElem?_cons_succ] at h
      have := ih (y := y) h
      unfold cntD at this
      rw [List.set_cons_succ, List.filter_cons, List.filter_cons]
      cases a.2 <;> simp <;> omega
theorem cnt_put {M M' : List Ah} {x : List UInt8 × List UInt8} (h : PutR M x M') : cntD M' = cntD M := by
  rcases h with ⟨j, p, hj, -, (⟨h2, -, rfl⟩ | ⟨-, rfl⟩)⟩ | ⟨-, rfl⟩
  · have := cnt_set (y := (x, false)) hj
    rw [h2] at this
    simpa using this
  · rfl
  · unfold cntD; simp
theorem cnt_le (M : List Ah) : cntD M ≤ M.length := List.length_filter_le _ _
theorem put_has {M M' : List Ah} {x : List UInt8 × List UInt8} (h : PutR M x M') (hb : Bits x.2) (hM : ∀ p ∈ M, Bits p.1.2) (hd : ∀ p ∈ M, p.2 = true → rk p.1.2 ≤ rk x.2) : HasE M' x.1 x.2 := by
  rcases h with ⟨j, p, hj, hp, (⟨h2, h3, rfl⟩ | ⟨h2, rfl⟩)⟩ | ⟨-, rfl⟩
  · have hlt := (List.getElem?_eq_some_iff.1 hj).1
    exact ⟨(x, false), List.mem_iff_getElem.2 ⟨j, by rw [List.length_set]; exact hlt, by simp⟩, rfl, Nat.le_refl _⟩
  · have hm := List.mem_of_getElem? hj
    refine ⟨p, hm, hp, ?_⟩
    rcases h2 with h2 | h2
    · exact hd p hm h2
    · exact Nat.le_of_not_lt fun hlt => by rw [(bef_rk hb (hM p hm)).2 hlt] at h2; cases h2
  · exact ⟨(x, false), by simp, rfl, Nat.le_refl _⟩
theorem put_mono {M M' : List Ah} {x : List UInt8 × List UInt8} (h : PutR M x M') (hb : Bits x.2) (hM : ∀ p ∈ M, Bits p.1.2) {r t : List UInt8} (hh : HasE M r t) : HasE M' r t := by
  obtain ⟨q, hq, hqr, hqt⟩ := hh
  rcases h with ⟨j, p, hj, hp, (⟨h2, h3, rfl⟩ | ⟨h2, rfl⟩)⟩ | ⟨-, rfl⟩
  · have hlt := (List.getElem?_eq_some_iff.1 hj).1
    obtain ⟨i, hi, hiq⟩ := List.getElem_of_mem hq
    by_cases e : i = j
    · subst e
      rw [List.getElem?_eq_getElem hi, hiq] at hj
      cases hj
      refine ⟨(x, false), List.mem_iff_getElem.2 ⟨i, by rw [List.length_set]; exact hlt, by simp⟩, by show x.1 = r; rw [← hp]; exact hqr, ?_⟩
      have := (bef_rk hb (hM _ hq)).1 h3
      show rk x.2 ≤ rk t
      omega
    · exact ⟨q, set_mem_ah e (by rw [List.getElem?_eq_getElem hi, hiq]), hqr, hqt⟩
  · exact ⟨q, hq, hqr, hqt⟩
  · exact ⟨q, List.mem_append_left _ hq, hqr, hqt⟩
/-- Those that are done stay. -/
theorem put_done {M M' : List Ah} {x : List UInt8 × List UInt8} (h : PutR M x M') {q : Ah} (hq2 : q.2 = true) : q ∈ M' ↔ q ∈ M := by
  rcases h with ⟨j, p, hj, hp, (⟨h2, h3, rfl⟩ | ⟨h2, rfl⟩)⟩ | ⟨-, rfl⟩
  · have hlt := (List.getElem?_eq_some_iff.1 hj).1
    constructor
    · intro hq
      rcases mem_set_ah hlt hq with rfl | ⟨i, -, hi⟩
      · cases hq2
      · exact List.mem_of_getElem? hi
    · intro hq
      obtain ⟨i, hi, hiq⟩ := List.getElem_of_mem hq
      refine set_mem_ah (i := i) (fun e => ?_) (by rw [List.getElem?_eq_getElem hi, hiq])
      subst e
      rw [List.getElem?_eq_getElem hi, hiq] at hj
      cases hj
      rw [h2] at hq2; cases hq2
  · exact Iff.rfl
  · rw [List.mem_append, List.mem_singleton]
    constructor
    · rintro (h | rfl)
      · exact h
      · cases hq2
    · exact .inl
theorem put_base {ws : List ByteArray} {M M' : List Ah} {x : List UInt8 × List UInt8} (h : PutR M x M') (hB : Base3 ws M) (hx : Way ws x.1 x.2) (hl : x.2.length ≤ 32 * (cntD M + 1)) (hd : ∀ p ∈ M, p.2 = true → rk p.1.2 ≤ rk x.2) : Base3 ws M' := by
  obtain ⟨h1, h2, h3⟩ := hB
  have hc := cnt_put h
  unfold Base3
  rw [hc]
  have key : ∀ q ∈ M', q ∈ M ∨ q = (x, false) := by
    intro q hq
    rcases h with ⟨j, p, hj, hp, (⟨-, -, rfl⟩ | ⟨-, rfl⟩)⟩ | ⟨-, rfl⟩
    · rcases mem_set_ah (List.getElem?_eq_some_iff.1 hj).1 hq with h | ⟨i, -, hi⟩
      · exact .inr h
      · exact .inl (List.mem_of_getElem? hi)
    · exact .inl hq
    · rw [List.mem_append, List.mem_singleton] at hq; exact hq
  refine ⟨fun q hq => ?_, ?_, fun p hp q hq hp2 hq2 => ?_⟩
  · rcases key q hq with hm | rfl
    · exact h1 q hm
    · exact ⟨hx, hl⟩
  · rcases h with ⟨j, p, hj, hp, (⟨-, -, rfl⟩ | ⟨-, rfl⟩)⟩ | ⟨hno, rfl⟩
    · intro a b q q' ha hb e
      have hlt := (List.getElem?_eq_some_iff.1 hj).1
      have conv : ∀ (a : Nat) (q : Ah), (M.set j (x, false))[a]? = some q → ∃ q0 : Ah, M[a]? = some q0 ∧ q0.1.1 = q.1.1 := by
        intro a q ha
        by_cases ea : a = j
        · subst ea
          rw [List.getElem?_set_self hlt] at ha
          cases ha
          exact ⟨p, hj, hp⟩
        · rw [List.getElem?_set_ne (Ne.symm ea)] at ha
          exact ⟨q, ha, rfl⟩
      obtain ⟨q0, e0, f0⟩ := conv a q ha
      obtain ⟨q1, e1, f1⟩ := conv b q' hb
      exact h2 a b q0 q1 e0 e1 (by rw [f0, f1, e])
    · exact h2
    · intro a b q q' ha hb e
      have conv : ∀ (a : Nat) (q : Ah), (M ++ [(x, false)])[a]? = some q → (a < M.length ∧ M[a]? = some q) ∨ (a = M.length ∧ q = (x, false)) := by
        intro a q ha
        by_cases hlt : a < M.length
        · rw [List.getElem?_append_left hlt] at ha
          exact .inl ⟨hlt, ha⟩
        · have h4 := (List.getElem?_eq_some_iff.1 ha).1
          rw [List.length_append, List.length_singleton] at h4
          have h5 : a = M.length := by omega
          subst h5
          rw [List.getElem?_append_right (Nat.le_refl _)] at ha
          simp at ha
          exact .inr ⟨rfl, ha.symm⟩
      rcases conv a q ha with ⟨a1, a2⟩ | ⟨a1, a2⟩ <;> rcases conv b q' hb with ⟨b1, b2⟩ | ⟨b1, b2⟩
      · exact h2 a b q q' a2 b2 e
      · subst b2
        exact absurd e (hno q (List.mem_of_getElem? a2))
      · subst a2
        exact absurd e.symm (hno q' (List.mem_of_getElem? b2))
      · omega
  · have hpM := (put_done h hp2).1 hp
    rcases key q hq with hm | rfl
    · exact h3 p hpM q hm hp2 hq2
    · exact hd p hpM hp2
theorem base_len {ws : List ByteArray} (hw : WBits ws) (hl : ws.length ≤ 16) {M : List Ah} (h : Base3 ws M) : M.length ≤ 528 := by
  have hn : (M.map (·.1.1)).Nodup := by
    rw [List.nodup_iff_pairwise_ne, List.pairwise_iff_getElem]
    intro i j hi hj hij e
    rw [List.getElem_map, List.getElem_map] at e
    rw [List.length_map] at hi hj
    have := h.2.1 i j _ _ (List.getElem?_eq_getElem hi) (List.getElem?_eq_getElem hj) e
    omega
  have := pigeon (M.map (·.1.1)) (sufs ws) hn (fun r hr => by
    obtain ⟨p, hp, rfl⟩ := List.mem_map.1 hr
    exact suf_mem hw hl (way_suf (h.1 p hp).1))
  rw [List.length_map] at this
  have e : (sufs ws).length = 528 := by unfold sufs; simp
  omega
def IniE (ws : List ByteArray) (M : List Ah) (Q : Nat → Nat → Prop) : Prop := ∀ i k, Q i k → pfx ws i k = true → HasE M ((wbx ws k).drop (wbx ws i).length) (wbx ws k)
/-- Those that are done are followed, all but those that Ex says. -/
def ClE (ws : List ByteArray) (M : List Ah) (Ex : Ah → Nat → Prop) : Prop := ∀ p ∈ M, p.2 = true → p.1.1 ≠ [] ∧ ∀ k, k < ws.length → ¬ Ex p k → ∀ nx more, fol (wbx ws k) p.1.1 = some (nx, more) → HasE M nx (p.1.2 ++ more)
theorem put_ini {ws : List ByteArray} {M M' : List Ah} {x : List UInt8 × List UInt8} {Q : Nat → Nat → Prop} (h : PutR M x M') (hb : Bits x.2) (hM : ∀ p ∈ M, Bits p.1.2) (hi : IniE ws M Q) : IniE ws M' Q := fun i k hq hp => put_mono h hb hM (hi i k hq hp)
theorem put_cl {ws : List ByteArray} {M M' : List Ah} {x : List UInt8 × List UInt8} {Ex : Ah → Nat → Prop} (h : PutR M x M') (hb : Bits x.2) (hM : ∀ p ∈ M, Bits p.1.2) (hi : ClE ws M Ex) : ClE ws M' Ex := fun p hp hp2 => by
  obtain ⟨a, b⟩ := hi p ((put_done h hp2).1 hp) hp2
  exact ⟨a, fun k hk he nx more hf => put_mono h hb hM (b k hk he nx more hf)⟩
theorem base_bits {ws : List ByteArray} (hw : WBits ws) {M : List Ah} (h : Base3 ws M) : ∀ p ∈ M, Bits p.1.2 := fun p hp => way_bits hw (h.1 p hp).1
/-- What holds between the rounds. -/
def DI (ws : List ByteArray) (M : List Ah) : Prop := Base3 ws M ∧ IniE ws M (fun i k => i < ws.length ∧ k < ws.length) ∧ ClE ws M (fun _ _ => False)
theorem reach {ws : List ByteArray} {M : List Ah} (h : DI ws M) {r t : List UInt8} (hy : Way ws r t) : (∃ p ∈ M, p.2 = true ∧ p.1.1 = r ∧ rk p.1.2 ≤ rk t) ∨ ∃ q ∈ M, q.2 = false ∧ rk q.1.2 ≤ rk t := by
  obtain ⟨hB, hI, hC⟩ := h
  have of : ∀ {r t}, HasE M r t → (∃ p ∈ M, p.2 = true ∧ p.1.1 = r ∧ rk p.1.2 ≤ rk t) ∨ ∃ q ∈ M, q.2 = false ∧ rk q.1.2 ≤ rk t := by
    rintro r t ⟨p, hp, h1, h2⟩
    cases hp2 : p.2
    · exact .inr ⟨p, hp, hp2, h2⟩
    · exact .inl ⟨p, hp, hp2, h1, h2⟩
  induction hy with
  | init i k hi hk hp => exact of (hI i k ⟨hi, hk⟩ hp)
  | step r t hy hr k hk nx more hf ih =>
    rcases ih with ⟨p, hp, hp2, h1, h2⟩ | ⟨q, hq, hq2, h2⟩
    · obtain ⟨-, hc⟩ := hC p hp hp2
      obtain ⟨p', hp', h1', h2'⟩ := hc k hk (fun e => e) nx more (by rw [h1]; exact hf)
      exact of ⟨p', hp', h1', Nat.le_trans h2' (rk_app more h2)⟩
    · exact .inr ⟨q, hq, hq2, Nat.le_trans h2 (rk_le_app t more)⟩
theorem dij_none {ws : List ByteArray} {M : List Ah} (h : DI ws M) (hn : ∀ p ∈ M, p.2 = true) : ¬ ∃ t, Way ws [] t := by
  rintro ⟨t, ht⟩
  rcases reach h ht with ⟨p, hp, hp2, h1, h2⟩ | ⟨q, hq, hq2, h2⟩
  · exact (h.2.2 p hp hp2).1 h1
  · rw [hn q hq] at hq2; cases hq2
theorem dij_some {ws : List ByteArray} {M : List Ah} (h : DI ws M) {p : Ah} (hp : p ∈ M) (he : p.1.1 = []) (hm : ∀ q ∈ M, q.2 = false → rk p.1.2 ≤ rk q.1.2) : isMin ws p.1.2 := by
  refine ⟨by rw [← he]; exact (h.1.1 p hp).1, fun u hu => ?_⟩
  rcases reach h hu with ⟨q, hq, hq2, h1, h2⟩ | ⟨q, hq, hq2, h2⟩
  · exact absurd h1 (h.2.2 q hq hq2).1
  · exact Nat.le_trans (hm q hq hq2) h2
/-- What holds while x is followed. -/
def DX (ws : List ByteArray) (M : List Ah) (x : List UInt8 × List UInt8) (kk : Nat) : Prop := Base3 ws M ∧ IniE ws M (fun i k => i < ws.length ∧ k < ws.length) ∧ ClE ws M (fun p k => p = (x, true) ∧ kk ≤ k) ∧ (x, true) ∈ M ∧ x.1 ≠ [] ∧ Way ws x.1 x.2 ∧ x.2.length ≤ 32 * cntD M ∧ (∀ p ∈ M, p.2 = true → rk p.1.2 ≤ rk x.2)
theorem dij_mark {ws : List ByteArray} {M : List Ah} (h : DI ws M) {j : Nat} {x : List UInt8 × List UInt8} (hj : M[j]? = some (x, false)) (hx : x.1 ≠ []) (hm : ∀ q ∈ M, q.2 = false → rk x.2 ≤ rk q.1.2) : DX ws (M.set j (x, true)) x 0 ∧ cntD (M.set j (x, true)) = cntD M + 1 := by
  obtain ⟨⟨h1, h2, h3⟩, hI, hC⟩ := h
  have hlt := (List.getElem?_eq_some_iff.1 hj).1
  have hmem := List.mem_of_getElem? hj
  have hc : cntD (M.set j (x, true)) = cntD M + 1 := by have := cnt_set (y := (x, true)) hj; simpa using this
  have key : ∀ q ∈ M.set j (x, true), q = (x, true) ∨ q ∈ M := fun q hq => (mem_set_ah hlt hq).imp id (fun ⟨i, _, hi⟩ => List.mem_of_getElem? hi)
  have hnew : (x, true) ∈ M.set j (x, true) := List.mem_iff_getElem.2 ⟨j, by rw [List.length_set]; exact hlt, by simp⟩
  have hhas : ∀ {r t}, HasE M r t → HasE (M.set j (x, true)) r t := by
    rintro r t ⟨p, hp, e1, e2⟩
    obtain ⟨i, hi, hiq⟩ := List.getElem_of_mem hp
    by_cases e : i = j
    · subst e
      rw [List.getElem?_eq_getElem hi, hiq] at hj
      cases hj
      exact ⟨(x, true), hnew, e1, e2⟩
    · exact ⟨p, set_mem_ah e (by rw [List.getElem?_eq_getElem hi, hiq]), e1, e2⟩
  have hdn : ∀ q ∈ M, q.2 = true → rk q.1.2 ≤ rk x.2 := fun q hq hq2 => h3 q hq (x, false) hmem hq2 rfl
  refine ⟨⟨⟨fun q hq => ?_, ?_, fun p hp q hq hp2 hq2 => ?_⟩, fun i k hq hp => hhas (hI i k hq hp), fun p hp hp2 => ?_, hnew, hx, (h1 _ hmem).1, by rw [hc]; exact (h1 _ hmem).2, fun p hp hp2 => ?_⟩, hc⟩
  · rw [hc]
    rcases key q hq with rfl | hm
    · have := h1 _ hmem; exact ⟨this.1, by have h9 : x.2.length ≤ _ := this.2; show x.2.length ≤ _; omega⟩
    · have := h1 q hm; exact ⟨this.1, by omega⟩
  · intro a b q q' ha hb e
    have conv : ∀ (a : Nat) (q : Ah), (M.set j (x, true))[a]? = some q → ∃ q0 : Ah, M[a]? = some q0 ∧ q0.1.1 = q.1.1 := by
      intro a q ha
      by_cases ea : a = j
      · subst ea
        rw [List.getElem?_set_self hlt] at ha
        cases ha
        exact ⟨_, hj, rfl⟩
      · rw [List.getElem?_set_ne (Ne.symm ea)] at ha
        exact ⟨q, ha, rfl⟩
    obtain ⟨q0, e0, f0⟩ := conv a q ha
    obtain ⟨q1, e1, f1⟩ := conv b q' hb
    exact h2 a b q0 q1 e0 e1 (by rw [f0, f1, e])
  · rcases key q hq with rfl | hqm
    · cases hq2
    · rcases key p hp with rfl | hpm
      · exact hm q hqm hq2
      · exact h3 p hpm q hqm hp2 hq2
  · rcases key p hp with rfl | hpm
    · exact ⟨hx, fun k hk he => absurd ⟨rfl, Nat.zero_le _⟩ he⟩
    · obtain ⟨a, b⟩ := hC p hpm hp2
      exact ⟨a, fun k hk he nx more hf => hhas (b k hk (fun e => e) nx more hf)⟩
  · rcases key p hp with rfl | hpm
    · exact Nat.le_refl _
    · exact hdn p hpm hp2
theorem dx_put {ws : List ByteArray} (hw : WBits ws) {M M' : List Ah} {x : List UInt8 × List UInt8} {kk : Nat} (h : DX ws M x kk) (hk : kk < ws.length) {nx more : List UInt8} (hf : fol (wbx ws kk) x.1 = some (nx, more)) (hp : PutR M (nx, x.2 ++ more) M') : DX ws M' x (kk + 1) := by
  obtain ⟨h1, h2, h3, h4, h5, h6, h7, h8⟩ := h
  have hway := Way.step x.1 x.2 h6 h5 kk hk nx more hf
  have hbits := way_bits hw hway
  have hM := base_bits hw h1
  have hge : rk x.2 ≤ rk (x.2 ++ more) := rk_le_app _ _
  have hd : ∀ p ∈ M, p.2 = true → rk p.1.2 ≤ rk (x.2 ++ more) := fun p hp hp2 => Nat.le_trans (h8 p hp hp2) hge
  have hml := (fol_more hw hf).2
  have hc := cnt_put hp
  refine ⟨put_base hp h1 hway (by show (x.2 ++ more).length ≤ _; rw [List.length_append]; omega) hd, put_ini hp hbits hM h2, ?_, (put_done hp rfl).2 h4, h5, h6, by rw [hc]; exact h7, fun p hpm hp2 => h8 p ((put_done hp hp2).1 hpm) hp2⟩
  intro p hpm hp2
  obtain ⟨a, b⟩ := put_cl hp hbits hM h3 p hpm hp2
  refine ⟨a, fun k hk' he nx' more' hf' => ?_⟩
  by_cases e : p = (x, true) ∧ kk ≤ k
  · obtain ⟨rfl, hle⟩ := e
    have : k = kk := by
      by_cases h : k = kk
      · exact h
      · exact absurd ⟨rfl, by omega⟩ he
    subst this
    rw [hf] at hf'
    cases hf'
    exact put_has hp hbits hM hd
  · exact b k hk' e nx' more' hf'
theorem dx_skip {ws : List ByteArray} {M : List Ah} {x : List UInt8 × List UInt8} {kk : Nat} (h : DX ws M x kk) (hf : fol (wbx ws kk) x.1 = none) : DX ws M x (kk + 1) := by
  obtain ⟨h1, h2, h3, h4⟩ := h
  refine ⟨h1, h2, fun p hpm hp2 => ?_, h4⟩
  obtain ⟨a, b⟩ := h3 p hpm hp2
  refine ⟨a, fun k hk' he nx' more' hf' => ?_⟩
  by_cases e : p = (x, true) ∧ kk ≤ k
  · obtain ⟨rfl, hle⟩ := e
    have : k = kk := by
      by_cases h : k = kk
      · exact h
      · exact absurd ⟨rfl, by omega⟩ he
    subst this
    rw [hf] at hf'
    cases hf'
  · exact b k hk' e nx' more' hf'
theorem dx_end {ws : List ByteArray} {M : List Ah} {x : List UInt8 × List UInt8} (h : DX ws M x ws.length) : DI ws M := by
  obtain ⟨h1, h2, h3, -⟩ := h
  refine ⟨h1, h2, fun p hpm hp2 => ?_⟩
  obtain ⟨a, b⟩ := h3 p hpm hp2
  exact ⟨a, fun k hk' _ nx more hf => b k hk' (fun e => by omega) nx more hf⟩
/-- What holds while the first rests are put. -/
def D0 (ws : List ByteArray) (M : List Ah) (Q : Nat → Nat → Prop) : Prop := Base3 ws M ∧ IniE ws M Q ∧ (∀ p ∈ M, p.2 = false) ∧ cntD M = 0
theorem d0_start (ws : List ByteArray) : D0 ws [] (fun _ _ => False) := ⟨⟨fun p hp => (by cases hp), fun i j p q h => (by simp at h), fun p hp => (by cases hp)⟩, fun i k h => h.elim, fun p hp => (by cases hp), rfl⟩
theorem D0.imp {ws : List ByteArray} {M : List Ah} {Q Q' : Nat → Nat → Prop} (h : D0 ws M Q) (hq : ∀ i k, Q' i k → Q i k ∨ pfx ws i k = false) : D0 ws M Q' := by
  refine ⟨h.1, fun i k hi hp => ?_, h.2.2⟩
  rcases hq i k hi with h2 | h2
  · exact h.2.1 i k h2 hp
  · rw [h2] at hp; cases hp
theorem d0_put {ws : List ByteArray} (hw : WBits ws) {M M' : List Ah} {Q : Nat → Nat → Prop} (h : D0 ws M Q) {i k : Nat} (hi : i < ws.length) (hk : k < ws.length) (hp : pfx ws i k = true) (hpu : PutR M ((wbx ws k).drop (wbx ws i).length, wbx ws k) M') : D0 ws M' (fun a b => Q a b ∨ (a = i ∧ b = k)) := by
  obtain ⟨h1, h2, h3, h4⟩ := h
  have hway := Way.init (ws := ws) i k hi hk hp
  have hbits := (hw k).1
  have hM := base_bits hw h1
  have hd : ∀ p ∈ M, p.2 = true → rk p.1.2 ≤ rk (wbx ws k) := fun p hpm hp2 => by rw [h3 p hpm] at hp2; cases hp2
  have hc := cnt_put hpu
  refine ⟨put_base hpu h1 hway (by have := (hw k).2; show (wbx ws k).length ≤ _; omega) hd, fun a b hq hab => ?_, fun p hpm => ?_, by rw [hc]; exact h4⟩
  · rcases hq with hq | ⟨rfl, rfl⟩
    · exact put_mono hpu hbits hM (h2 a b hq hab)
    · exact put_has hpu hbits hM hd
  · cases hp2 : p.2
    · rfl
    · have := h3 p ((put_done hpu hp2).1 hpm)
      rw [hp2] at this; cases this
theorem d0_end {ws : List ByteArray} {M : List Ah} (h : D0 ws M (fun i k => i < ws.length ∧ k < ws.length)) : DI ws M := ⟨h.1, h.2.1, fun p hp hp2 => by rw [h.2.2.1 p hp] at hp2; cases hp2⟩

end Go.Proofs.YtcgenmkgdhaejaaDoor
