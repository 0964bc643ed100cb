/- Texts that are made of words in two ways: the table of rests, plain. -/
import Derived.Test.YtjobgobeiiakgaaDoorUnq
namespace Go.Proofs.YtjobgobeiiakgaaDoor
set_option linter.unusedSimpArgs false
set_option linter.unusedVariables false
open Go.RowKit
open Go.Maps (Keyed Tidy IsMap has size)

/-- The text of a rest. -/
def ent (D : TM) (r : List UInt8) : Option (List UInt8) := if has D (.string r) then some (txOf (D.atKey (.string r) (.lit (.string [])))) else none
theorem lowC_none {D : TM} {u : List UInt8} (s : List UInt8) (h : ent D u = none) : lowC D u s = true := by
  unfold ent at h
  unfold lowC
  split at h
  · cases h
  · rename_i hh
    rw [Bool.not_eq_true] at hh
    rw [hh]; rfl
theorem lowC_some {D : TM} {u o : List UInt8} (s : List UInt8) (h : ent D u = some o) : lowC D u s = bef s o := by
  unfold ent at h
  unfold lowC
  split at h
  · rename_i hh
    cases h
    rw [hh]; rfl
  · cases h
theorem ent_put_same {D : TM} (h : Tidy D) (u s : List UInt8) : ent (D.put (.string u) (.lit (.string s))) u = some s := by
  unfold ent
  rw [Go.Maps.has_put_same (k := .string u) h.isMap trivial, if_pos rfl, Go.Maps.atKey_put_same (k := .string u) h.isMap trivial]
  rfl
theorem ent_put_other {D : TM} {u r : List UInt8} (s : List UInt8) (hne : r ≠ u) : ent (D.put (.string u) (.lit (.string s))) r = ent D r := by
  have hn : (Lit.string r) ≠ Lit.string u := fun e => hne (by cases e; rfl)
  unfold ent
  rw [Go.Maps.has_put_other hn, Go.Maps.atKey_put_other hn]
theorem lowD_yes {D : TM} {u s : List UInt8} (h : lowC D u s = true) : lowD D u s = D.put (.string u) (.lit (.string s)) := by unfold lowD; rw [h]; rfl
theorem lowD_no {D : TM} {u s : List UInt8} (h : lowC D u s = false) : lowD D u s = D := by unfold lowD; rw [h]; rfl

/-- The ends of words. -/
def sufs (ws : List ByteArray) : List (List UInt8) := (List.range 528).map fun q => (wbx ws (q / 33)).drop (q % 33)
theorem suf_mem {ws : List ByteArray} (hw : WBits ws) (hl : ws.length ≤ 16) {r : List UInt8} (h : Suf ws r) : r ∈ sufs ws := by
  obtain ⟨k, hk, hs⟩ := h
  have h1 := (hw k).2
  have h2 := hs.length_le
  rw [List.suffix_iff_eq_drop] at hs
  unfold sufs
  rw [List.mem_map]
  refine ⟨33 * k + ((wbx ws k).length - r.length), by rw [List.mem_range]; omega, ?_⟩
  rw [show (33 * k + ((wbx ws k).length - r.length)) / 33 = k by omega, show (33 * k + ((wbx ws k).length - r.length)) % 33 = (wbx ws k).length - r.length by omega]
  exact hs.symm
theorem pigeon {α : Type} [DecidableEq α] : ∀ (l m : List α), l.Nodup → (∀ x ∈ l, x ∈ m) → l.length ≤ m.length
  | [], m, _, _ => Nat.zero_le _
  | x :: l, m, hn, h => by
    have hx := h x (List.mem_cons_self ..)
    rw [List.nodup_cons] at hn
    have ih := pigeon l (m.erase x) hn.2 (fun y hy => (List.mem_erase_of_ne (fun e => hn.1 (by rw [← e]; exact hy))).2 (h y (List.mem_cons_of_mem _ hy)))
    rw [List.length_erase_of_mem hx] at ih
    have : 1 ≤ m.length := List.length_pos_of_mem hx
    show l.length + 1 ≤ _
    omega
def rnk (D : TM) (s : List UInt8) : Nat := match ent D s with | none => 2 ^ 33 | some t => rk t
def rank (ws : List ByteArray) (D : TM) : Nat := ((sufs ws).map (rnk D)).sum
theorem sum_le {α : Type} (f g : α → Nat) : ∀ l : List α, (∀ x ∈ l, f x ≤ g x) → (l.map f).sum ≤ (l.map g).sum
  | [], _ => Nat.le_refl _
  | x :: l, h => by
    have h1 := h x (List.mem_cons_self ..)
    have h2 := sum_le f g l (fun y hy => h y (List.mem_cons_of_mem _ hy))
    simp only [List.map_cons, List.sum_cons]
    omega
theorem sum_lt {α : Type} (f g : α → Nat) : ∀ l : List α, (∀ x ∈ l, f x ≤ g x) → (∃ x ∈ l, f x < g x) → (l.map f).sum < (l.map g).sum
  | [], _, ⟨_, hx, _⟩ => by cases hx
  | x :: l, h, ⟨y, hy, hlt⟩ => by
    have h1 := h x (List.mem_cons_self ..)
    have h2 := sum_le f g l (fun y hy => h y (List.mem_cons_of_mem _ hy))
    simp only [List.map_cons, List.sum_cons]
    rcases List.mem_cons.1 hy with rfl | hy
    · omega
    · have := sum_lt f g l (fun y hy => h y (List.mem_cons_of_mem _ hy)) ⟨y, hy, hlt⟩
      omega
/-- What the table keeps to. -/
def GInv (ws : List ByteArray) (m : Nat) (D : TM) : Prop := Tidy D ∧ ∀ r t, ent D r = some t → Suf ws r ∧ Bits t ∧ t.length ≤ 32 ∧ (m ≠ 0 → Way ws r t) ∧ ∃ u, Way ws r u
theorem low_inv {ws : List ByteArray} (hw : WBits ws) (hl : ws.length ≤ 16) {m : Nat} {D : TM} (h : GInv ws m D) (u s : List UInt8) (h1 : Suf ws u) (h2 : Bits s) (h3 : s.length ≤ 32) (h4 : m ≠ 0 → Way ws u s) (h5 : ∃ x, Way ws u x) :
    GInv ws m (lowD D u s) ∧ (∀ r t, ent D r = some t → ∃ t', ent (lowD D u s) r = some t' ∧ rk t' ≤ rk t) ∧ (∃ t', ent (lowD D u s) u = some t' ∧ rk t' ≤ rk s) ∧ (lowC D u s = true → rank ws (lowD D u s) < rank ws D) := by
  cases hc : lowC D u s
  · rw [lowD_no hc]
    refine ⟨h, fun r t e => ⟨t, e, Nat.le_refl _⟩, ?_, fun e => by cases e⟩
    cases he : ent D u with
    | none => rw [lowC_none s he] at hc; cases hc
    | some o =>
      rw [lowC_some s he] at hc
      obtain ⟨-, ho, -⟩ := h.2 u o he
      refine ⟨o, rfl, ?_⟩
      exact Nat.le_of_not_lt fun hlt => by rw [(bef_rk h2 ho).2 hlt] at hc; cases hc
  · rw [lowD_yes hc]
    have hsame := ent_put_same h.1 u s
    have hoth := fun r (hne : r ≠ u) => ent_put_other (D := D) s hne
    have hval : ∀ r t, ent D r = some t → ∃ t', ent (D.put (.string u) (.lit (.string s))) r = some t' ∧ rk t' ≤ rk t := by
      intro r t e
      by_cases hr : r = u
      · subst hr
        rw [lowC_some s e] at hc
        obtain ⟨-, ho, -⟩ := h.2 r t e
        exact ⟨s, hsame, Nat.le_of_lt ((bef_rk h2 ho).1 hc)⟩
      · exact ⟨t, by rw [hoth r hr]; exact e, Nat.le_refl _⟩
    refine ⟨⟨h.1.put (k := .string u) trivial _, fun r t e => ?_⟩, hval, ⟨s, hsame, Nat.le_refl _⟩, fun _ => ?_⟩
    · by_cases hr : r = u
      · subst hr
        rw [hsame] at e
        cases e
        exact ⟨h1, h2, h3, h4, h5⟩
      · rw [hoth r hr] at e
        exact h.2 r t e
    · have hsm : rk s < 2 ^ 33 := Nat.lt_of_lt_of_le (rk_lo s).2 (Nat.pow_le_pow_right (by omega) (by omega))
      refine sum_lt _ _ _ (fun r _ => ?_) ⟨u, suf_mem hw hl h1, ?_⟩
      · unfold rnk
        cases he : ent D r with
        | none =>
          by_cases hr : r = u
          · subst hr; rw [hsame]; exact Nat.le_of_lt hsm
          · rw [hoth r hr, he]; exact Nat.le_refl _
        | some t =>
          obtain ⟨t', e', hle⟩ := hval r t he
          rw [e']; exact hle
      · unfold rnk
        rw [hsame]
        cases he : ent D u with
        | none => exact hsm
        | some o =>
          rw [lowC_some s he] at hc
          exact (bef_rk h2 (h.2 u o he).2.1).1 hc
/-- The first rests are there. -/
def Ini (ws : List ByteArray) (D : TM) : Prop := ∀ i k, i < ws.length → k < ws.length → pfx ws i k = true → ∃ t, ent D ((wbx ws k).drop (wbx ws i).length) = some t ∧ rk t ≤ rk (wbx ws k)
theorem ini_low {ws : List ByteArray} {D D' : TM} (h : Ini ws D) (hv : ∀ r t, ent D r = some t → ∃ t', ent D' r = some t' ∧ rk t' ≤ rk t) : Ini ws D' := by
  intro i k hi hk hp
  obtain ⟨t, e, hle⟩ := h i k hi hk hp
  obtain ⟨t', e', hle'⟩ := hv _ t e
  exact ⟨t', e', Nat.le_trans hle' hle⟩
theorem frR_g {ws : List ByteArray} (hw : WBits ws) (hl : ws.length ≤ 16) (m i : Nat) (hi : i < ws.length) (D : TM) (h : GInv ws m D) : ∀ k, k ≤ ws.length →
    GInv ws m (frR ws i D k) ∧ (∀ r t, ent D r = some t → ∃ t', ent (frR ws i D k) r = some t' ∧ rk t' ≤ rk t) ∧ ∀ j, j < k → pfx ws i j = true → ∃ t, ent (frR ws i D k) ((wbx ws j).drop (wbx ws i).length) = some t ∧ rk t ≤ rk (wbx ws j)
  | 0, _ => ⟨h, fun r t e => ⟨t, e, Nat.le_refl _⟩, fun j hj => by omega⟩
  | k + 1, hk => by
    obtain ⟨g1, g2, g3⟩ := frR_g hw hl m i hi D h k (by omega)
    show GInv ws m (frI ws i (frR ws i D k) k) ∧ _
    have e0 : frR ws i D (k + 1) = frI ws i (frR ws i D k) k := rfl
    rw [e0]
    unfold frI
    cases hp : pfx ws i k
    · rw [if_neg Bool.false_ne_true]
      refine ⟨g1, g2, fun j hj hjp => g3 j ?_ hjp⟩
      by_cases he : j = k
      · rw [he, hp] at hjp; cases hjp
      · omega
    · rw [if_pos rfl]
      have hway := Way.init (ws := ws) i k hi (by omega) hp
      obtain ⟨a1, a2, a3, -⟩ := low_inv hw hl g1 ((wbx ws k).drop (wbx ws i).length) (wbx ws k) (way_suf hway) (hw k).1 (hw k).2 (fun _ => hway) ⟨_, hway⟩
      refine ⟨a1, fun r t e => ?_, fun j hj hjp => ?_⟩
      · obtain ⟨t', e', hle⟩ := g2 r t e
        obtain ⟨t2, e2, hle2⟩ := a2 r t' e'
        exact ⟨t2, e2, Nat.le_trans hle2 hle⟩
      · by_cases he : j = k
        · subst he; exact a3
        · obtain ⟨t', e', hle⟩ := g3 j (by omega) hjp
          obtain ⟨t2, e2, hle2⟩ := a2 _ t' e'
          exact ⟨t2, e2, Nat.le_trans hle2 hle⟩
theorem frA_g {ws : List ByteArray} (hw : WBits ws) (hl : ws.length ≤ 16) (m : Nat) : ∀ i, i ≤ ws.length →
    GInv ws m (frA ws i) ∧ ∀ a, a < i → ∀ j, j < ws.length → pfx ws a j = true → ∃ t, ent (frA ws i) ((wbx ws j).drop (wbx ws a).length) = some t ∧ rk t ≤ rk (wbx ws j)
  | 0, _ => ⟨⟨Go.Maps.tidy_empty, fun r t e => by cases e⟩, fun j hj => by omega⟩
  | i + 1, hi => by
    obtain ⟨g1, g2⟩ := frA_g hw hl m i (by omega)
    obtain ⟨a1, a2, a3⟩ := frR_g hw hl m i (by omega) (frA ws i) g1 ws.length (Nat.le_refl _)
    refine ⟨a1, fun a ha j hj hp => ?_⟩
    by_cases he : a = i
    · subst he; exact a3 j hj hp
    · obtain ⟨t', e', hle⟩ := g2 a (by omega) j hj hp
      obtain ⟨t2, e2, hle2⟩ := a2 _ t' e'
      exact ⟨t2, e2, Nat.le_trans hle2 hle⟩
theorem frA_start {ws : List ByteArray} (hw : WBits ws) (hl : ws.length ≤ 16) (m : Nat) : GInv ws m (frA ws ws.length) ∧ Ini ws (frA ws ws.length) := by
  obtain ⟨g1, g2⟩ := frA_g hw hl m ws.length (Nat.le_refl _)
  exact ⟨g1, fun i k hi hk hp => g2 i hi k hk hp⟩
/-- The followers of a rest. -/
def folL (ws : List ByteArray) (r : List UInt8) (n : Nat) : List (List UInt8 × List UInt8) := (List.range n).filterMap fun k => fol (wbx ws k) r
theorem folL_zero (ws : List ByteArray) (r : List UInt8) : folL ws r 0 = [] := rfl
theorem folL_some {ws : List ByteArray} {r : List UInt8} {n : Nat} {x : List UInt8 × List UInt8} (h : fol (wbx ws n) r = some x) : folL ws r (n + 1) = folL ws r n ++ [x] := by
  unfold folL
  rw [List.range_succ, List.filterMap_append]
  simp [h]
theorem folL_none {ws : List ByteArray} {r : List UInt8} {n : Nat} (h : fol (wbx ws n) r = none) : folL ws r (n + 1) = folL ws r n := by
  unfold folL
  rw [List.range_succ, List.filterMap_append]
  simp [h]
theorem folL_len (ws : List ByteArray) (r : List UInt8) (n : Nat) : (folL ws r n).length ≤ n := by
  unfold folL
  have := List.length_filterMap_le (fun k => fol (wbx ws k) r) (List.range n)
  simpa using this
theorem folL_mem {ws : List ByteArray} {r : List UInt8} {n : Nat} {x : List UInt8 × List UInt8} : x ∈ folL ws r n ↔ ∃ k, k < n ∧ fol (wbx ws k) r = some x := by
  unfold folL
  simp [List.mem_filterMap]
/-- The text that comes of a rest. -/
def txt (m : Nat) (D : TM) (r more : List UInt8) : List UInt8 := if m = 0 then [] else (ent D r).getD [] ++ more
/-- Nothing is lowered by it. -/
def Cl (m : Nat) (D : TM) (r : List UInt8) (x : List UInt8 × List UInt8) : Prop := (txt m D r x.2).length ≤ m → lowC D x.1 (txt m D r x.2) = false
theorem step_low {ws : List ByteArray} (hw : WBits ws) (hl : ws.length ≤ 16) {m : Nat} (hm : m ≤ 32) {D : TM} (h : GInv ws m D) (hi : Ini ws D) {r : List UInt8} (hr : r ≠ []) (he : ent D r ≠ none) {x : List UInt8 × List UInt8} (hx : x ∈ folL ws r ws.length) {s : List UInt8} (hs : s = txt m D r x.2) (ht : s.length ≤ m) :
    GInv ws m (lowD D x.1 s) ∧ Ini ws (lowD D x.1 s) ∧ (∀ q, ent D q ≠ none → ent (lowD D x.1 s) q ≠ none) ∧ (lowC D x.1 s = true → rank ws (lowD D x.1 s) < rank ws D) := by
  obtain ⟨k, hk, hf⟩ := folL_mem.1 hx
  obtain ⟨nx, more⟩ := x
  cases hd : ent D r with
  | none => exact absurd hd he
  | some t =>
    obtain ⟨g1, g2, g3, g4, u, g5⟩ := h.2 r t hd
    obtain ⟨f1, f2⟩ := fol_more hw hf
    have hsw : m ≠ 0 → s = t ++ more := fun hm0 => by rw [hs]; unfold txt; rw [if_neg hm0, hd]; rfl
    have hs0 : m = 0 → s = [] := fun hm0 => by rw [hs]; unfold txt; rw [if_pos hm0]
    have hb : Bits s := by
      by_cases hm0 : m = 0
      · rw [hs0 hm0]; intro c hc; cases hc
      · rw [hsw hm0]; exact g2.app f1
    obtain ⟨a1, a2, a3, a4⟩ := low_inv hw hl h nx s (fol_suf hk g1 hf) hb (by omega) (fun hm0 => by rw [hsw hm0]; exact Way.step r t (g4 hm0) hr k hk nx more hf) ⟨_, Way.step r u g5 hr k hk nx more hf⟩
    refine ⟨a1, ini_low hi a2, fun q hq => ?_, a4⟩
    cases hq2 : ent D q with
    | none => exact absurd hq2 hq
    | some v =>
      obtain ⟨v', e', -⟩ := a2 q v hq2
      show ent (lowD D nx s) q ≠ none
      rw [e']; simp
/-- What holds within a pass that began at D0. -/
def PassR (ws : List ByteArray) (m : Nat) (D0 : TM) (c : Bool) (D : TM) (Q : List UInt8 → List UInt8 × List UInt8 → Prop) : Prop :=
  GInv ws m D ∧ Ini ws D ∧ (∀ q, ent D0 q ≠ none → ent D q ≠ none) ∧ (c = true → rank ws D < rank ws D0) ∧ (c = false → D = D0 ∧ ∀ r x, Q r x → Cl m D0 r x)
theorem pass_start {ws : List ByteArray} {m : Nat} {D : TM} (h : GInv ws m D) (hi : Ini ws D) : PassR ws m D false D (fun _ _ => False) :=
  ⟨h, hi, fun _ h => h, fun e => (by cases e), fun _ => ⟨rfl, fun _ _ h => h.elim⟩⟩
theorem PassR.imp {ws : List ByteArray} {m : Nat} {D0 D : TM} {c : Bool} {Q Q' : List UInt8 → List UInt8 × List UInt8 → Prop} (h : PassR ws m D0 c D Q) (hq : ∀ r x, Q' r x → Q r x) : PassR ws m D0 c D Q' :=
  ⟨h.1, h.2.1, h.2.2.1, h.2.2.2.1, fun e => ⟨(h.2.2.2.2 e).1, fun r x hx => (h.2.2.2.2 e).2 r x (hq r x hx)⟩⟩
/-- A follower whose text is too long. -/
theorem pass_long {ws : List ByteArray} {m : Nat} {D0 D : TM} {c : Bool} {Q : List UInt8 → List UInt8 × List UInt8 → Prop} (h : PassR ws m D0 c D Q) {r : List UInt8} {x : List UInt8 × List UInt8} {s : List UInt8} (hs : s = txt m D r x.2) (ht : ¬ s.length ≤ m) :
    PassR ws m D0 c D (fun r' x' => Q r' x' ∨ (r' = r ∧ x' = x)) := by
  refine ⟨h.1, h.2.1, h.2.2.1, h.2.2.2.1, fun e => ?_⟩
  obtain ⟨e1, e2⟩ := h.2.2.2.2 e
  refine ⟨e1, fun r' x' hq => ?_⟩
  rcases hq with hq | ⟨rfl, rfl⟩
  · exact e2 r' x' hq
  · intro hle
    rw [← e1, ← hs] at hle
    exact absurd hle ht
/-- A follower that is put. -/
theorem pass_put {ws : List ByteArray} (hw : WBits ws) (hl : ws.length ≤ 16) {m : Nat} (hm : m ≤ 32) {D0 D : TM} {c : Bool} {Q : List UInt8 → List UInt8 × List UInt8 → Prop} (h : PassR ws m D0 c D Q) {r : List UInt8} (hr : r ≠ []) (he : ent D0 r ≠ none) {x : List UInt8 × List UInt8} (hx : x ∈ folL ws r ws.length) {s : List UInt8} (hs : s = txt m D r x.2) (ht : s.length ≤ m) :
    PassR ws m D0 (c || lowC D x.1 s) (lowD D x.1 s) (fun r' x' => Q r' x' ∨ (r' = r ∧ x' = x)) := by
  obtain ⟨h1, h2, h3, h4, h5⟩ := h
  obtain ⟨s1, s2, s3, s4⟩ := step_low hw hl hm h1 h2 hr (h3 r he) hx hs ht
  refine ⟨s1, s2, fun q hq => s3 q (h3 q hq), fun e => ?_, fun e => ?_⟩
  · cases hc : lowC D x.1 s
    · rw [hc, Bool.or_false] at e
      rw [lowD_no hc]; exact h4 e
    · have := s4 hc
      cases c
      · rw [(h5 rfl).1] at this ⊢; exact this
      · exact Nat.lt_trans this (h4 rfl)
  · rw [Bool.or_eq_false_iff] at e
    obtain ⟨ec, el⟩ := e
    obtain ⟨e1, e2⟩ := h5 ec
    rw [lowD_no el]
    refine ⟨e1, fun r' x' hq => ?_⟩
    rcases hq with hq | ⟨rfl, rfl⟩
    · exact e2 r' x' hq
    · intro _
      rw [← e1, ← hs]; exact el
/-- What holds behind the passes. -/
def Fin (ws : List ByteArray) (m : Nat) (D : TM) : Prop := GInv ws m D ∧ Ini ws D ∧ ∀ r t, ent D r = some t → r ≠ [] → ∀ x ∈ folL ws r ws.length, Cl m D r x
theorem fin_32 {ws : List ByteArray} (hw : WBits ws) {D : TM} (h : Fin ws 32 D) {r t : List UInt8} (hy : Way ws r t) (hl : t.length ≤ 32) : ∃ t', ent D r = some t' ∧ rk t' ≤ rk t := by
  induction hy with
  | init i k hi hk hp => exact h.2.1 i k hi hk hp
  | step r t hy hr k hk nx more hf ih =>
    rw [List.length_append] at hl
    obtain ⟨t', e, hle⟩ := ih (by omega)
    have hll := rk_len hle
    have hc := h.2.2 r t' e hr (nx, more) (folL_mem.2 ⟨k, hk, hf⟩)
    have htx : txt 32 D r more = t' ++ more := by unfold txt; rw [if_neg (by omega), e]; rfl
    unfold Cl at hc
    rw [htx] at hc
    have hc := hc (by rw [List.length_append]; omega)
    have hm := rk_app more hle
    cases hn : ent D nx with
    | none => rw [lowC_none _ hn] at hc; cases hc
    | some o =>
      rw [lowC_some _ hn] at hc
      refine ⟨o, rfl, Nat.le_trans ?_ hm⟩
      exact Nat.le_of_not_lt fun hlt => by
        rw [(bef_rk ((h.1.2 r t' e).2.1.app (fol_more hw hf).1) (h.1.2 nx o hn).2.1).2 hlt] at hc; cases hc
theorem fin_0 {ws : List ByteArray} {D : TM} (h : Fin ws 0 D) {r t : List UInt8} (hy : Way ws r t) : ∃ t', ent D r = some t' := by
  induction hy with
  | init i k hi hk hp => obtain ⟨t, e, -⟩ := h.2.1 i k hi hk hp; exact ⟨t, e⟩
  | step r t hy hr k hk nx more hf ih =>
    obtain ⟨t', e⟩ := ih
    have hc := h.2.2 r t' e hr (nx, more) (folL_mem.2 ⟨k, hk, hf⟩)
    unfold Cl txt at hc
    rw [if_pos rfl] at hc
    have hc := hc (by simp)
    cases hn : ent D nx with
    | none => rw [lowC_none _ hn] at hc; cases hc
    | some o => exact ⟨o, rfl⟩
theorem fin_unique {ws : List ByteArray} (hk : wsOk ws = true) {D : TM} (h : Fin ws 0 D) : out_IsUnique ws = (!has D (.string []), true) := by
  cases hh : has D (.string [])
  · refine outU_one hk fun ⟨t, ht⟩ => ?_
    obtain ⟨t', e⟩ := fin_0 h ht
    unfold ent at e
    rw [hh] at e
    cases e
  · have e : ent D [] = some (txOf (D.atKey (.string []) (.lit (.string [])))) := by unfold ent; rw [hh]; rfl
    obtain ⟨-, -, -, -, hu⟩ := h.1.2 _ _ e
    exact outU_two hk hu
theorem fin_two {ws : List ByteArray} (hk : wsOk ws = true) {D : TM} (h : Fin ws 32 D) : (has D (.string []) = false → out_TwoReadings ws = (⟨#[]⟩, false)) ∧ (∀ t, has D (.string []) = true → D.atKey (.string []) (.lit (.string [])) = .lit (.string t) → out_TwoReadings ws = (⟨t.toArray⟩, true)) := by
  have hw := wsOk_bits hk
  constructor
  · intro hh
    refine outT_none fun ⟨t, ht, hl⟩ => ?_
    obtain ⟨t', e, -⟩ := fin_32 hw h ht.1 hl
    unfold ent at e
    rw [hh] at e
    cases e
  · intro t hh ht
    have e : ent D [] = some t := by unfold ent; rw [hh, ht]; rfl
    obtain ⟨-, -, g3, g4, -⟩ := h.1.2 _ _ e
    refine outT_some hk ⟨g4 (by omega), fun u hu => ?_⟩ g3
    by_cases hl : u.length ≤ 32
    · obtain ⟨t', e', hle⟩ := fin_32 hw h hu hl
      rw [e] at e'
      cases e'
      exact hle
    · have h1 := (rk_lo t).2
      have h2 := (rk_lo u).1
      have h3 : 2 ^ (t.length + 1) ≤ 2 ^ u.length := Nat.pow_le_pow_right (by omega) (by omega)
      omega

end Go.Proofs.YtjobgobeiiakgaaDoor
