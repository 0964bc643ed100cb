/- Errors of tests: they grow and fall with the bar, and all types come to one, nearly. Plain: no program. -/
import Derived.Test.YtmocfnpbofeiiaaMMlt
import Derived.Test.YtmocfnpbofeiiaaMTe4
import Derived.Test.YtmocfnpbofeiiaaMSnG
namespace Go.Proofs.Ytmocfnpbofeiiaa
set_option linter.unusedSimpArgs false
set_option linter.unusedVariables false
open Ieee

theorem rnd_mono0 {f : Format} {v v' : Rat} {w w' : Nat} (h : Rnd f v w) (h' : Rnd f v' w') (h0 : 0 ≤ v) (hv : v ≤ v') : sv f w ≤ sv f w' := by
  have p := rnd_ge0 h h0
  have p' := rnd_ge0 h' (Rat.le_trans h0 hv)
  have e := av_sv f w
  have e' := av_sv f w'
  rw [av_of_nonneg p] at e
  rw [av_of_nonneg p'] at e'
  rw [e, e']
  refine rv_le f ?_
  obtain ⟨s, q, rfl, hn, _⟩ := h
  obtain ⟨s', q', rfl, hn', _⟩ := h'
  rw [rg_word f s (Nat.min_le_right ..), rg_word f s' (Nat.min_le_right ..)]
  rw [av_of_nonneg h0] at hn
  rw [av_of_nonneg (Rat.le_trans h0 hv)] at hn'
  have := hn.mono hn' hv
  omega
/-- A number that is a word already. -/
theorem rnd_self {f : Format} {w : Nat} (h : Fnt f w) (h0 : 0 ≤ sv f w) (hi : rg f w < f.infRung) : Rnd f (sv f w) (f.word false (rg f w)) := by
  refine ⟨false, rg f w, by rw [Nat.min_eq_left (by omega)], ?_, fun _ => rfl, fun h => by grind⟩
  rw [av_sv]; exact Near.exact f _
theorem sv_word_self {f : Format} {w : Nat} (h : Fnt f w) (h0 : 0 ≤ sv f w) : sv f (f.word false (rg f w)) = sv f w := by
  have e := av_sv f w
  rw [av_of_nonneg h0] at e
  have hi : rg f w ≤ f.infRung := Nat.le_of_lt h
  unfold sv at e ⊢
  rw [sg_word f false hi, rg_word f false hi]
  simp only [Bool.false_eq_true, if_false]
  exact e.symm
/-- A sum is not below its first part. -/
theorem rnd_grow {f : Format} {x : Nat} {c : Rat} {w : Nat} (hx : Fnt f x) (h0 : 0 ≤ sv f x) (hc : 0 ≤ c) (h : Rnd f (sv f x + c) w) : sv f x ≤ sv f w := by
  have := rnd_mono0 (rnd_self hx h0 hx) h h0 (by grind)
  rwa [sv_word_self hx h0] at this
section
variable {n L : Nat} {xs ys : List Nat}
theorem geF_mono {s b c : Nat} (hs : Fnt single s) (hb : Fnt single b) (hc : Fnt single c) (h : sv single b ≤ sv single c) (hg : geF s c = true) : geF s b = true := by
  unfold geF at *
  rw [Bool.not_eq_true', beq_eq_false_iff_ne] at *
  intro hlt
  have h1 := (order_fin hs hb).1.1 hlt
  exact hg ((order_fin hs hc).1.2 (by grind))
/-- With the bar, what is missed grows and what is taken falls. -/
theorem te_mono (hn : n ≤ 12) (hx : Abv xs) (hy : Abv ys) (h1 : xs.length = L) (h2 : ys.length = L) (hL : L ≤ 3) {b c : Nat} (hb : Fnt single b) (hc : Fnt single c) (hbc : sv single b ≤ sv single c) {l : List (List Nat)} (hT : ∀ cs ∈ l, Ty n L cs) (hl : l.length ≤ 91)
    (px : ∀ cs ∈ l, 0 ≤ sv single (chF xs cs L)) (py : ∀ cs ∈ l, 0 ≤ sv single (chF ys cs L)) :
    ∀ k, k ≤ l.length → (0 ≤ sv single (teF xs ys L b (l.take k)).1 ∧ 0 ≤ sv single (teF xs ys L c (l.take k)).2) ∧ sv single (teF xs ys L b (l.take k)).1 ≤ sv single (teF xs ys L c (l.take k)).1 ∧ sv single (teF xs ys L c (l.take k)).2 ≤ sv single (teF xs ys L b (l.take k)).2 := by
  intro k
  induction k with
  | zero =>
    intro _
    have z : sv single 0 = 0 := by decide +kernel
    rw [List.take_zero]
    show (0 ≤ sv single 0 ∧ 0 ≤ sv single 0) ∧ sv single 0 ≤ sv single 0 ∧ sv single 0 ≤ sv single 0
    rw [z]
    decide +kernel
  | succ k ih =>
    intro hk
    obtain ⟨⟨i1, i2⟩, i3, i4⟩ := ih (by omega)
    have hkl : k < l.length := hk
    have hmem : l[k]?.getD [] ∈ l := by rw [List.getElem?_eq_getElem hkl]; exact List.getElem_mem _
    have hTk := hT _ hmem
    have hsub : ∀ cs ∈ l.take k, Ty n L cs := fun cs h => hT cs (List.mem_of_mem_take h)
    have hlk : (l.take k).length ≤ 91 := by rw [List.length_take]; omega
    obtain ⟨b1, b2⟩ := teF_bd (bar := b) hn hx hy h1 h2 (l.take k) hsub hlk
    obtain ⟨c1, c2⟩ := teF_bd (bar := c) hn hx hy h1 h2 (l.take k) hsub hlk
    have cx := (chF_bd hTk hn hx h1).mono (show 28 ≤ 28 + (l.take k).length by omega)
    have cy := (chF_bd hTk hn hy h2).mono (show 28 ≤ 28 + (l.take k).length by omega)
    have hbias : 28 + (l.take k).length + 1 ≤ bias .f32 := by show _ ≤ 127; omega
    have r1 := (bd_add b1 cx hbias).2.2
    have r2 := (bd_add c1 cx hbias).2.2
    have r3 := (bd_add b2 cy hbias).2.2
    have r4 := (bd_add c2 cy hbias).2.2
    rw [show FloatKind.f32.format = single from rfl] at r1 r2 r3 r4
    have qx := px _ hmem
    have qy := py _ hmem
    have f1 := b1.fnt (by show _ ≤ 127; omega)
    have f2 := c1.fnt (by show _ ≤ 127; omega)
    have f3 := b2.fnt (by show _ ≤ 127; omega)
    have f4 := c2.fnt (by show _ ≤ 127; omega)
    rw [show FloatKind.f32.format = single from rfl] at f1 f2 f3 f4
    have hs : Fnt single (sfP xs ys (l[k]?.getD []) L) := ((sfP_bd hTk hn hx hy h1 h2 L (Nat.le_refl _) hL).1).fnt (by show 21 + L ≤ 127; omega)
    rw [teF_take hkl, teF_take hkl]
    have i4' : 0 ≤ sv single (teF xs ys L b (l.take k)).2 := Rat.le_trans i2 i4
    have i3' : 0 ≤ sv single (teF xs ys L c (l.take k)).1 := Rat.le_trans i1 i3
    unfold teS
    generalize teF xs ys L b (l.take k) = B at *
    generalize teF xs ys L c (l.take k) = C at *
    generalize sfP xs ys (l[k]?.getD []) L = s at *
    generalize chF xs (l[k]?.getD []) L = X at *
    generalize chF ys (l[k]?.getD []) L = Y at *
    by_cases gc : geF s c = true
    · have gb := geF_mono hs hb hc hbc gc
      rw [if_pos gc, if_pos gb]
      exact ⟨⟨i1, rnd_ge0 r4 (by grind)⟩, i3, rnd_mono0 r4 r3 (by grind) (by grind)⟩
    · rw [if_neg gc]
      by_cases gb : geF s b = true
      · rw [if_pos gb]
        exact ⟨⟨i1, i2⟩, Rat.le_trans i3 (rnd_grow f2 i3' qx r2), Rat.le_trans i4 (rnd_grow f3 i4' qy r3)⟩
      · rw [if_neg gb]
        exact ⟨⟨rnd_ge0 r1 (by grind), i2⟩, rnd_mono0 r1 r2 (by grind) (by grind), i4⟩
/-- What is missed is at most what all types come to. -/
theorem te_all (hn : n ≤ 12) (hx : Abv xs) (hy : Abv ys) (h1 : xs.length = L) (h2 : ys.length = L) {b : Nat} {l : List (List Nat)} (hT : ∀ cs ∈ l, Ty n L cs) (hl : l.length ≤ 91)
    (px : ∀ cs ∈ l, 0 ≤ sv single (chF xs cs L)) :
    ∀ k, k ≤ l.length → 0 ≤ sv single (teF xs ys L b (l.take k)).1 ∧ sv single (teF xs ys L b (l.take k)).1 ≤ sv single (flS (fun i => chF xs (l[i]?.getD []) L) k) ∧ Bd .f32 (28 + k) (flS (fun i => chF xs (l[i]?.getD []) L) k) := by
  intro k
  induction k with
  | zero =>
    intro _
    have z : sv single 0 = 0 := by decide +kernel
    rw [List.take_zero]
    show 0 ≤ sv single 0 ∧ sv single 0 ≤ sv single 0 ∧ Bd .f32 (28 + 0) 0
    rw [z]
    exact ⟨Rat.le_refl, Rat.le_refl, bd_zero _⟩
  | succ k ih =>
    intro hk
    obtain ⟨i1, i2, i3⟩ := ih (by omega)
    have hkl : k < l.length := hk
    have hmem : l[k]?.getD [] ∈ l := by rw [List.getElem?_eq_getElem hkl]; exact List.getElem_mem _
    have hTk := hT _ hmem
    have hsub : ∀ cs ∈ l.take k, Ty n L cs := fun cs h => hT cs (List.mem_of_mem_take h)
    have hlen : (l.take k).length = k := by rw [List.length_take]; omega
    have b1 := (teF_bd (bar := b) hn hx hy h1 h2 (l.take k) hsub (by omega)).1
    rw [hlen] at b1
    have cx := (chF_bd hTk hn hx h1).mono (show 28 ≤ 28 + k by omega)
    have r1 := (bd_add b1 cx (by show 28 + k + 1 ≤ 127; omega)).2.2
    obtain ⟨_, n2, r2⟩ := bd_add i3 cx (by show 28 + k + 1 ≤ 127; omega)
    rw [show FloatKind.f32.format = single from rfl] at r1 r2
    have qx := px _ hmem
    have f3 := i3.fnt (by show _ ≤ 127; omega)
    rw [show FloatKind.f32.format = single from rfl] at f3
    rw [teF_take hkl]
    have e : flS (fun i => chF xs (l[i]?.getD []) L) (k + 1) = fA .add .f32 (flS (fun i => chF xs (l[i]?.getD []) L) k) (chF xs (l[k]?.getD []) L) := rfl
    rw [e]
    have i3' := Rat.le_trans i1 i2
    unfold teS
    generalize teF xs ys L b (l.take k) = B at *
    generalize flS (fun i => chF xs (l[i]?.getD []) L) k = C at *
    generalize sfP xs ys (l[k]?.getD []) L = s at *
    generalize chF xs (l[k]?.getD []) L = X at *
    generalize chF ys (l[k]?.getD []) L = Y at *
    refine ⟨?_, ?_, by rw [← Nat.add_assoc]; exact n2⟩
    · split
      · exact i1
      · exact rnd_ge0 r1 (by grind)
    · split
      · exact Rat.le_trans i2 (rnd_grow f3 i3' qx r2)
      · exact rnd_mono0 r1 r2 (by grind) (by grind)
/-- A bar that is below all sums: all is taken. -/
theorem te_taken {b : Nat} {l : List (List Nat)} (hg : ∀ cs ∈ l, geF (sfP xs ys cs L) b = true) : ∀ k, k ≤ l.length → teF xs ys L b (l.take k) = (0, flS (fun i => chF ys (l[i]?.getD []) L) k) := by
  intro k
  induction k with
  | zero => intro _; rw [List.take_zero]; rfl
  | succ k ih =>
    intro hk
    have hmem : l[k]?.getD [] ∈ l := by rw [List.getElem?_eq_getElem hk]; exact List.getElem_mem _
    rw [teF_take hk, ih (by omega)]
    unfold teS
    rw [if_pos (hg _ hmem)]
    rfl
end

end Go.Proofs.Ytmocfnpbofeiiaa

/- The chances of all types come to one, nearly. Plain: no program. -/
namespace Go.Proofs.Ytmocfnpbofeiiaa
set_option linter.unusedSimpArgs false
set_option linter.unusedVariables false
open Ieee

/-- A row of L words near chances that come to one. -/
structure Rw (xs : List Nat) (ps : Nat → Rat) (L : Nat) : Prop where
  len : xs.length = L
  two : L = 2 ∨ L = 3
  rr : ∀ j, j < L → Rr (xs[j]?.getD 0) (ps j)
  one : smN ps L = 1
theorem ws_ok : ((List.range 8).all fun n => [2, 3].all fun L => (tysL n L).all fun cs => decide (1 ≤ wsP cs L) && decide (wsP cs L < 2000)) = true := by decide +kernel
theorem ws_in {n L : Nat} {cs : List Nat} (hn : n ≤ 7) (hL : L = 2 ∨ L = 3) (hc : cs ∈ tysL n L) : 1 ≤ wsP cs L ∧ wsP cs L < 2000 := by
  have h := ws_ok
  rw [List.all_eq_true] at h
  have h1 := h n (List.mem_range.2 (by omega))
  rw [List.all_eq_true] at h1
  have h2 := h1 L (by rcases hL with rfl | rfl <;> simp)
  rw [List.all_eq_true] at h2
  have h3 := h2 cs hc
  rw [Bool.and_eq_true, decide_eq_true_iff, decide_eq_true_iff] at h3
  exact h3
theorem ch_rl {n L : Nat} {xs cs : List Nat} {ps : Nat → Rat} (R : Rw xs ps L) (hn : n ≤ 7) (hc : cs ∈ tysL n L) : Rl (chF xs cs L) (prX ps cs L L) n ((n : Rat) * (1 / 4000000)) := by
  have hT := (ty_of (n := n) (by omega) R.two).2 cs hc
  obtain ⟨w1, w2⟩ := ws_in hn R.two hc
  have h := prP_rl hT (by omega) w1 w2 R.rr L (Nat.le_refl _)
  have e : sumP cs L = n := by
    unfold sumP
    rw [List.take_of_length_le (by rw [hT.len]; exact Nat.le_refl _), hT.sum]
  rw [e] at h
  exact h
theorem ch_sum {n L : Nat} {xs : List Nat} {ps : Nat → Rat} (R : Rw xs ps L) (hn : n ≤ 7) : smN (fun i => prX ps ((tysL n L)[i]?.getD []) L L) (tysL n L).length = 1 := by
  have hone := R.one
  rcases R.two with rfl | rfl
  · have h0 : ps 0 + ps 1 = 1 := by simp only [smN] at hone; grind
    have e : ∀ cs, prX ps cs 2 2 = chX2 (ps 0) (ps 1) cs := fun cs => by simp only [prX, mulX_eq, chX2]
    rw [smN_eq _ (fun i _ => e _)]
    have k : ∀ m : Nat, (ps 0 + ps 1) ^ m = 1 := by
      intro m
      rw [h0]
      induction m with
      | zero => rw [Rat.pow_zero]
      | succ m ih => rw [Rat.pow_succ, ih]; decide +kernel
    rcases (show n = 0 ∨ n = 1 ∨ n = 2 ∨ n = 3 ∨ n = 4 ∨ n = 5 ∨ n = 6 ∨ n = 7 by omega) with rfl | rfl | rfl | rfl | rfl | rfl | rfl | rfl
    · rw [mlt2_0]; exact k _
    · rw [mlt2_1]; exact k _
    · rw [mlt2_2]; exact k _
    · rw [mlt2_3]; exact k _
    · rw [mlt2_4]; exact k _
    · rw [mlt2_5]; exact k _
    · rw [mlt2_6]; exact k _
    · rw [mlt2_7]; exact k _
  · have h0 : ps 0 + ps 1 + ps 2 = 1 := by simp only [smN] at hone; grind
    have e : ∀ cs, prX ps cs 3 3 = chX3 (ps 0) (ps 1) (ps 2) cs := fun cs => by simp only [prX, mulX_eq, chX3]
    rw [smN_eq _ (fun i _ => e _)]
    have k : ∀ m : Nat, (ps 0 + ps 1 + ps 2) ^ m = 1 := by
      intro m
      rw [h0]
      induction m with
      | zero => rw [Rat.pow_zero]
      | succ m ih => rw [Rat.pow_succ, ih]; decide +kernel
    rcases (show n = 0 ∨ n = 1 ∨ n = 2 ∨ n = 3 ∨ n = 4 ∨ n = 5 ∨ n = 6 ∨ n = 7 by omega) with rfl | rfl | rfl | rfl | rfl | rfl | rfl | rfl
    · rw [mlt3_0]; exact k _
    · rw [mlt3_1]; exact k _
    · rw [mlt3_2]; exact k _
    · rw [mlt3_3]; exact k _
    · rw [mlt3_4]; exact k _
    · rw [mlt3_5]; exact k _
    · rw [mlt3_6]; exact k _
    · rw [mlt3_7]; exact k _
/-- Each float chance is near its exact one, and not below zero. -/
theorem ch_near {n L : Nat} {xs cs : List Nat} {ps : Nat → Rat} (R : Rw xs ps L) (hn : n ≤ 7) (hc : cs ∈ tysL n L) : Fnt single (chF xs cs L) ∧ 0 ≤ prX ps cs L L ∧ 0 ≤ sv single (chF xs cs L) ∧ av (sv single (chF xs cs L) - prX ps cs L L) ≤ 1 / 500000 * prX ps cs L L := by
  obtain ⟨f, hv, _, he⟩ := ch_rl R hn hc
  have v0 : 0 ≤ prX ps cs L L := by
    rcases hv with h | h
    · rw [h]; exact Rat.le_refl
    · have := hpow_pos n; grind
  have hn7 : (n : Rat) ≤ 7 := by
    have : (n : Rat) ≤ ((7 : Nat) : Rat) := by exact_mod_cast hn
    exact this
  have k := Rat.mul_le_mul_of_nonneg_right (show (n : Rat) * (1 / 4000000) ≤ 1 / 500000 by grind) v0
  have he2 := Rat.le_trans he k
  have a := Rat.le_trans (neg_le_av _) he2
  refine ⟨f, v0, ?_, he2⟩
  generalize sv single (chF xs cs L) = s at *
  generalize prX ps cs L L = v at *
  clear he he2 k hv
  grind
/-- All types come to one, nearly: exactly added, and by floats. -/
theorem chTy_all {n L : Nat} {xs : List Nat} {ps : Nat → Rat} (R : Rw xs ps L) (hn : n ≤ 7) : Fnt single (flS (fun i => chF xs ((tysL n L)[i]?.getD []) L) (tysL n L).length) ∧ av (sv single (flS (fun i => chF xs ((tysL n L)[i]?.getD []) L) (tysL n L).length) - 1) ≤ 1 / 10000 := by
  have hl91 := (ty_of (n := n) (by omega) R.two).1
  have hl : (tysL n L).length ≤ 64 := by
    have h : ((List.range 8).all fun n => [2, 3].all fun L => decide ((tysL n L).length ≤ 64)) = true := by decide +kernel
    rw [List.all_eq_true] at h
    have h1 := h n (List.mem_range.2 (by omega))
    rw [List.all_eq_true] at h1
    exact of_decide_eq_true (h1 L (by rcases R.two with rfl | rfl <;> simp))
  have mem : ∀ i, i < (tysL n L).length → (tysL n L)[i]?.getD [] ∈ tysL n L := fun i hi => by rw [List.getElem?_eq_getElem hi]; exact List.getElem_mem _
  have S := ch_sum R hn
  have near : ∀ k, k ≤ (tysL n L).length → av (smN (fun i => sv single (chF xs ((tysL n L)[i]?.getD []) L)) k - smN (fun i => prX ps ((tysL n L)[i]?.getD []) L L) k) ≤ 1 / 500000 * smN (fun i => prX ps ((tysL n L)[i]?.getD []) L L) k := by
    intro k
    induction k with
    | zero => intro _; simp only [smN]; decide +kernel
    | succ k ih =>
      intro hk
      have h1 := ih (by omega)
      obtain ⟨_, _, _, h2⟩ := ch_near R hn (mem k hk)
      have h3 := av_add_le h1 h2
      simp only [smN]
      rw [show ∀ a b c d : Rat, a + c - (b + d) = a - b + (c - d) from fun a b c d => by grind]
      refine Rat.le_trans h3 ?_
      grind
  have N := near _ (Nat.le_refl _)
  rw [S] at N
  have n1 := Rat.le_trans (le_av _) N
  have n2 := Rat.le_trans (neg_le_av _) N
  have FL := (flS_ap (w := fun i => chF xs ((tysL n L)[i]?.getD []) L) hl (fun i hi => (ch_near R hn (mem i hi)).1) (fun i hi => (ch_near R hn (mem i hi)).2.2.1) (by
    show _ ≤ smN (fun i => sv single (chF xs ((tysL n L)[i]?.getD []) L)) _
    generalize smN (fun i => sv single (chF xs ((tysL n L)[i]?.getD []) L)) (tysL n L).length = T at *
    clear N S near mem hl91
    grind) (by
    show smN (fun i => sv single (chF xs ((tysL n L)[i]?.getD []) L)) _ ≤ _
    generalize smN (fun i => sv single (chF xs ((tysL n L)[i]?.getD []) L)) (tysL n L).length = T at *
    clear N S near mem hl91
    grind) _ (Nat.le_refl _)).1
  refine ⟨FL.1, ?_⟩
  have F2 := FL.2
  have hlr : (((tysL n L).length : Nat) : Rat) ≤ 64 := by
    have : (((tysL n L).length : Nat) : Rat) ≤ ((64 : Nat) : Rat) := by exact_mod_cast hl
    exact this
  have hl0 : (0 : Rat) ≤ (((tysL n L).length : Nat) : Rat) := by exact_mod_cast Nat.zero_le _
  rw [show FloatKind.f32.format = single from rfl] at F2
  have F3 := av_add_le F2 N
  generalize smN (fun i => sv single (chF xs ((tysL n L)[i]?.getD []) L)) (tysL n L).length = T at *
  generalize sv single (flS (fun i => chF xs ((tysL n L)[i]?.getD []) L) (tysL n L).length) = f at *
  rw [show f - T + (T - 1) = f - 1 by grind] at F3
  refine Rat.le_trans F3 ?_
  generalize (((tysL n L).length : Nat) : Rat) = m at *
  clear F3 F2 FL N S near mem hl91
  have := Rat.mul_le_mul_of_nonneg_right hlr (show 0 ≤ T / 8000000 by grind)
  grind

end Go.Proofs.Ytmocfnpbofeiiaa
