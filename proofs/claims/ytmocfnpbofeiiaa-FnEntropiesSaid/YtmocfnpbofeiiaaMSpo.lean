/- The mixture of two rows, and their spread. -/
import Derived.Test.YtmocfnpbofeiiaaMTbe
import Derived.Test.YtmocfnpbofeiiaaMStb
namespace Go.Proofs.Ytmocfnpbofeiiaa
set_option linter.unusedSimpArgs false
set_option linter.unusedVariables false
open Go.RowKit

theorem row_half : Ch 1056964608 := .inl (by omega)
theorem sv_half : av (sv Ieee.single 1056964608) = 1 / 2 := by
  rw [av_sv, show rg Ieee.single 1056964608 = 1056964608 by decide]
  have e := rv_at Ieee.single 125 8388608 (.inr ⟨by decide, by decide⟩)
  rw [show 125 * Ieee.single.binade + 8388608 = 1056964608 by decide] at e
  rw [e]
  decide +kernel
theorem half_en {x : Nat} (h : En x) : (floatBits .mul .f32 1056964608 x).isSome = true ∧ En (fA .mul .f32 1056964608 x) ∧ Bd .f32 0 (fA .mul .f32 1056964608 x) := by
  obtain ⟨a, b⟩ := mul_ch row_half h.1
  obtain ⟨_, _, c⟩ := bd_mul (Bd.of (by decide) : Bd .f32 0 1056964608) h.2 (by decide) (by decide)
  have hb : Bd .f32 0 (fA .mul .f32 1056964608 x) := bd_rnd c (by
    rw [av_mul, show FloatKind.f32.format = Ieee.single from rfl, sv_half]
    have h2 := h.2
    unfold Bd at h2
    rw [show FloatKind.f32.format = Ieee.single from rfl, p2_dbl] at h2
    grind)
  refine ⟨a, ⟨?_, hb.mono (by omega)⟩, hb⟩
  rcases b.cases with h1 | h1
  · exact h1
  · exfalso
    have := hb.fnt (by decide)
    rw [h1] at this
    exact absurd this (by show ¬ rg Ieee.single 2139095040 < Ieee.single.infRung; decide)
/-- The mixture of halves of two chances. -/
def mxT (x y : Nat) : Nat := fA .add .f32 (fA .mul .f32 1056964608 x) (fA .mul .f32 1056964608 y)
theorem mxT_en {x y : Nat} (hx : En x) (hy : En y) : (floatBits .add .f32 (fA .mul .f32 1056964608 x) (fA .mul .f32 1056964608 y)).isSome = true ∧ En (mxT x y) := by
  obtain ⟨_, ax, bx⟩ := half_en hx
  obtain ⟨_, ay, by'⟩ := half_en hy
  obtain ⟨a, b, c⟩ := bd_add bx by' (by decide)
  refine ⟨a, ?_, b⟩
  have hp : Pn (mxT x y) := by
    have h0 : 0 ≤ sv FloatKind.f32.format (fA .mul .f32 1056964608 x) + sv FloatKind.f32.format (fA .mul .f32 1056964608 y) := by
      have := ax.1.nonneg
      have := ay.1.nonneg
      show 0 ≤ sv Ieee.single _ + sv Ieee.single _
      grind
    by_cases hz : sv FloatKind.f32.format (fA .mul .f32 1056964608 x) + sv FloatKind.f32.format (fA .mul .f32 1056964608 y) = 0
    · obtain ⟨w, h2, h3, h4⟩ := add_spec s_hf ax.1.fnt ay.1.fnt
      obtain ⟨a1, a2⟩ := fA_of (op := .add) (k := .f32) h2
      have := h4 hz
      unfold mxT
      rw [a2, this]
      unfold Pn
      cases (sg Ieee.single (fA .mul .f32 1056964608 x) && sg Ieee.single (fA .mul .f32 1056964608 y))
      · exact .inl (by decide)
      · exact .inr (by decide)
    · exact .inl (c.pos (by grind))
  rcases hp.cases with h1 | h1
  · exact h1
  · exfalso
    have := b.fnt (by decide)
    unfold mxT at h1
    rw [h1] at this
    exact absurd this (by show ¬ rg Ieee.single 2139095040 < Ieee.single.infRung; decide)
def mxL (xs ys : List Nat) (k : Nat) : List Nat := (List.range k).map fun i => mxT (xs[i]?.getD 0) (ys[i]?.getD 0)
theorem mxL_succ (xs ys : List Nat) (k : Nat) : mxL xs ys (k + 1) = mxL xs ys k ++ [mxT (xs[k]?.getD 0) (ys[k]?.getD 0)] := by simp [mxL, List.range_succ]
theorem mxL_length (xs ys : List Nat) (k : Nat) : (mxL xs ys k).length = k := by simp [mxL]
theorem mxL_en {xs ys : List Nat} (hx : ∀ x ∈ xs, En x) (hy : ∀ x ∈ ys, En x) (he : ys.length = xs.length) : ∀ x ∈ mxL xs ys xs.length, En x := by
  intro x h
  obtain ⟨i, hi, rfl⟩ := List.mem_map.1 h
  have hi' := List.mem_range.1 hi
  exact (mxT_en (get_pn hx hi') (get_pn hy (by omega))).2
theorem one_half : (floatBits .sub .f32 1065353216 1056964608).isSome = true ∧ fA .sub .f32 1065353216 1056964608 = 1056964608 := by decide

set_option maxHeartbeats 1000000 in
theorem mixed_any (v u : Value) (xs ys : List Nat) (w : World) (hv : SlR w v (xs.map (Value.float .f32))) (hu : SlR w u (ys.map (Value.float .f32))) (hx : ∀ x ∈ xs, En x) (hy : ∀ x ∈ ys, En x) (he : ys.length = xs.length) (hl : xs.length ≤ 64) :
    Calls Try.prog 98 #[v, u, .float .f32 1056964608] w (RetSl w 32 xs.length ((mxL xs ys xs.length).map (Value.float .f32)) id) := by
  obtain ⟨i0, hi0, hz00, hz01, hz02⟩ := info_parts info_Float32S
  obtain ⟨a, n, c, rfl, hnl, hnc, hcm, hcell⟩ := SlR.opened 0 hv
  obtain ⟨a', n', c', rfl, hnl', hnc', hcm', hcell'⟩ := SlR.opened 0 hu
  obtain rfl : n' = n := by omega
  have hn9 : n' ≤ 64 := by omega
  rw [hnl]
  have HN := Lib.hid hnl
  have HM := Lib.hid hnl'
  have HC := Lib.hid hcell
  have HD := Lib.hid hcell'
  have HX := Lib.hid hx
  have HY := Lib.hid hy
  obtain ⟨s1, s2⟩ := one_half
  clear hnl hcell hcm hnc hv hl hx hnl' hcell' hcm' hnc' hu hy he
  go_enter Try.func98, Try.ntmps98
  go_wp2
  have hown0 : (w.alloc (.cells #[] 32)).ownsRow w.heap.size 32 1 (.slice (some ⟨w.heap.size, 0, none⟩) 0 0) 0 [] := World.ownsRow_made w #[] 0 (Nat.le_refl _) (Nat.zero_le _) rfl
  have hb0 : Below w.heap.size w (w.alloc (.cells #[] 32)) := by go_grown
  go_loopw [7, 13] (fun u i wr => ∃ k : Nat, k ≤ n' ∧ i = .int .i64 k ∧ wr.ownsRow w.heap.size 32 1 u k ((mxL xs ys k).map (Value.float .f32)) ∧ Below w.heap.size w wr) (fun _ i _ => n' - (intOf i).toNat)
  case atStart => exact ⟨0, Nat.zero_le _, rfl, hown0, hb0⟩
  case round =>
    clear hown0 hb0
    obtain ⟨k, hk, rfl, hown, hb⟩ := hrel
    have hbs := hb.size
    by_cases hlt : k < n'
    · obtain ⟨b, off, rfl, hc0, hbl⟩ := HC.out k hlt
      obtain ⟨b2, off2, rfl, hd0, hbl2⟩ := HD.out k hlt
      rw [List.getD_eq_getElem?_getD] at hc0 hd0
      have hc := (hb.cell (p := ⟨b, off + k, none⟩) hbl).trans hc0
      have hd := (hb.cell (p := ⟨b2, off2 + k, none⟩) hbl2).trans hd0
      have hkl : k < xs.length := by rw [HN.out]; exact hlt
      have hkm : k < ys.length := by rw [HM.out]; exact hlt
      have g1 := (half_en (get_pn HX.out hkl)).1
      have g2 := (half_en (get_pn HY.out hkm)).1
      have g3 := (mxT_en (get_pn HX.out hkl) (get_pn HY.out hkm)).1
      have hs := mxL_succ xs ys k
      unfold mxT at hs
      have HS := Lib.hid hs
      generalize xs[k]?.getD 0 = z at *
      generalize ys[k]?.getD 0 = y at *
      clear hkl hkm hc0 hd0 hs
      go_wp2_with (at_builtin; refine wpList_append_own _ rfl _ _ 25 rfl w.heap.size 32 i0 (.float .f32 0) 1 4 Try.underlying25 hi0 hz00 hz01 hz02 rfl (by decide) u7 _ _ rfl (hown.alloc _) ⟨(World.heap wr).size, 0, none⟩ 1 1 [.float .f32 (fA .add .f32 (fA .mul .f32 1056964608 z) (fA .mul .f32 1056964608 y))] rfl rfl (cell_one_new _ _ _) (one_oneCell rfl) (by unfold maxLen; omega) (by omega) (by simp only [World.size_alloc]; have := hb.size; omega) ?_; intro v1 w1 hown1 hgx _; have hb1 := app_below hb (by have := hb.size; omega) _ hgx hown (by omega))
      rw [map_snoc_f, ← HS.out] at hown1
      go_roundw
      case rel => exact ⟨k + 1, by omega, by go_num, hown1, hb1⟩
      case measure => simp [intOf]; omega
    · obtain rfl : n' = k := by omega
      go_wp2
      go_ret
      exact RetSl.of (f := id) hown hb

theorem half_quo {s : Nat} (h : Fnt Ieee.single s) : (floatBits .quo .f32 s 1073741824).isSome = true ∧ fA .quo .f32 s 1073741824 = fA .mul .f32 1056964608 s := by
  have f2 : Fnt Ieee.single 1073741824 := fin_of_lt _ (by rw [s_inf]; omega)
  have f1 : Fnt Ieee.single 1056964608 := fin_of_lt _ (by rw [s_inf]; omega)
  obtain ⟨q, h1, h2⟩ := div_spec s_hf h f2 (by decide)
  obtain ⟨p, h3, h4⟩ := mul_spec s_hf f1 h
  obtain ⟨a1, a2⟩ := fA_of (op := .quo) (k := .f32) h1
  obtain ⟨b1, b2⟩ := fA_of (op := .mul) (k := .f32) h3
  refine ⟨a1, ?_⟩
  rw [a2, b2]
  have e2 : rv Ieee.single (rg Ieee.single 1073741824) = 2 := by
    rw [show rg Ieee.single 1073741824 = 1073741824 by decide]
    have e := rv_at Ieee.single 127 8388608 (.inr ⟨by decide, by decide⟩)
    rw [show 127 * Ieee.single.binade + 8388608 = 1073741824 by decide] at e
    rw [e]
    decide +kernel
  have e1 : rv Ieee.single (rg Ieee.single 1056964608) = 1 / 2 := by
    have := sv_half
    rw [av_sv] at this
    exact this
  rw [e2] at h2
  rw [e1] at h4
  have hv : rv Ieee.single (rg Ieee.single s) / 2 = 1 / 2 * rv Ieee.single (rg Ieee.single s) := by grind
  rw [hv] at h2
  rw [h2.uniq h4]
  rw [show sg Ieee.single 1073741824 = false by decide, show sg Ieee.single 1056964608 = false by decide]
  cases sg Ieee.single s <;> rfl
def twB (xs ys : List Nat) : Bool := rowB xs && rowB ys && decide (xs.length = ys.length)
def spH (xs ys : List Nat) : Nat := fA .mul .f32 1056964608 (fA .add .f32 (entF xs) (entF ys))
def spV (xs ys : List Nat) : Nat := fA .sub .f32 (entF (mxL xs ys xs.length)) (spH xs ys)
def out_SpreadOf (xs ys : List Nat) : Nat × Bool := if twB xs ys then (fz (spV xs ys), finB (spV xs ys)) else (0, false)
theorem nan0_SpreadOf (xs : List Nat) (_ : ∀ x ∈ xs, x < 4294967296) (_ : xs.length ≤ 1048576) (ys : List Nat) (_ : ∀ x ∈ ys, x < 4294967296) (_ : ys.length ≤ 1048576) : nanB (out_SpreadOf xs ys).1 = false := by
  unfold out_SpreadOf
  split
  · exact fz_nan _
  · rfl
theorem sp_no {xs ys : List Nat} (h : twB xs ys = false) : out_SpreadOf xs ys = (0, false) := by unfold out_SpreadOf; rw [h]; rfl
theorem sp_yes {xs ys : List Nat} (h : twB xs ys = true) : out_SpreadOf xs ys = (fz (spV xs ys), finB (spV xs ys)) := by unfold out_SpreadOf; rw [h]; rfl
theorem twB_split {xs ys : List Nat} (h : twB xs ys = true) : rowB xs = true ∧ rowB ys = true ∧ ys.length = xs.length := by
  unfold twB at h; simp only [Bool.and_eq_true, decide_eq_true_eq] at h; exact ⟨h.1.1, h.1.2, h.2.symm⟩
theorem row_en {xs : List Nat} (h : rowB xs = true) : (∀ x ∈ xs, En x) ∧ xs.length ≤ 64 := by
  obtain ⟨_, h2, h3⟩ := rowB_one h
  exact ⟨one_en h3, by omega⟩
theorem sp_some {xs ys : List Nat} (h : twB xs ys = true) : (floatBits .add .f32 (entF xs) (entF ys)).isSome = true ∧ ((floatBits .quo .f32 (fA .add .f32 (entF xs) (entF ys)) 1073741824).isSome = true ∧ fA .quo .f32 (fA .add .f32 (entF xs) (entF ys)) 1073741824 = spH xs ys) ∧ (floatBits .mul .f32 1056964608 (fA .add .f32 (entF xs) (entF ys))).isSome = true ∧ (floatBits .sub .f32 (entF (mxL xs ys xs.length)) (spH xs ys)).isSome = true := by
  obtain ⟨hx, hy, he⟩ := twB_split h
  obtain ⟨ex, lx⟩ := row_en hx
  obtain ⟨ey, ly⟩ := row_en hy
  have bx := (entF_bd ex lx).2
  have by' := (entF_bd ey ly).2
  have bm := (entF_bd (mxL_en ex ey he) (by rw [mxL_length]; exact lx)).2
  obtain ⟨a, b, _⟩ := bd_add bx by' (by decide)
  obtain ⟨c, d, _⟩ := bd_mul (Bd.of (by decide) : Bd .f32 0 1056964608) b (by decide) (by decide)
  obtain ⟨e, _, _⟩ := bd_sub (bm.mono (by decide : 82 ≤ 0 + (82 + 1))) d (by decide)
  exact ⟨a, half_quo (b.fnt (by decide)), c, e⟩

set_option maxHeartbeats 1000000 in
theorem areRows_any (v u : Value) (xs ys : List Nat) (w : World) (hv : SlR w v (xs.map (Value.float .f32))) (hu : SlR w u (ys.map (Value.float .f32))) (hx : ∀ x ∈ xs, x < 4294967296) (hy : ∀ x ∈ ys, x < 4294967296) :
    Calls Try.prog 97 #[v, u] w fun e w' => e = .returned (.bool (twB xs ys)) ∧ Qu w w' := by
  have ht : twB xs ys = (rowB xs && rowB ys && decide (xs.length = ys.length)) := rfl
  rw [ht]
  clear ht
  have HX := Lib.hid hx
  have HY := Lib.hid hy
  obtain ⟨a, n, c, he1, hnl, hnc, hcm, -⟩ := SlR.opened 0 hv
  obtain ⟨a', n', c', he2, hnl', hnc', hcm', -⟩ := SlR.opened 0 hu
  unfold maxLen at hcm hcm'
  have HN := Lib.hid hnl
  have HM := Lib.hid hnl'
  have hud := Lib.hid (fun (W : World) (hq : Qu w W) => hu.below hq.keep)
  have HV := Lib.hid hv
  clear hx hy hv hu
  subst he1 he2
  generalize h1 : rowB xs = b1
  generalize h2 : rowB ys = b2
  have H1 := Lib.hid h1
  have H2 := Lib.hid h2
  clear h1 h2
  cases b1
  · go_enter Try.func97, Try.ntmps97
    go_wp2_with (go_at_call 50; refine (isRow_any _ xs _ HV.out HX.out).mono ?_; rw [H1.out]; rintro e w1 ⟨rfl, hq1⟩; have hu1 := hud.out _ hq1)
    go_ret
    exact ⟨rfl, hq1⟩
  · cases b2
    · go_enter Try.func97, Try.ntmps97
      go_wp2_with (first | (go_at_call 50; refine (isRow_any _ ys _ hu1 HY.out).mono ?_; rw [H2.out]; rintro e w2 ⟨rfl, hq2⟩; have hq3 := hq1.trans hq2) | (go_at_call 50; refine (isRow_any _ xs _ HV.out HX.out).mono ?_; rw [H1.out]; rintro e w1 ⟨rfl, hq1⟩; have hu1 := hud.out _ hq1))
      go_ret
      exact ⟨rfl, hq3⟩
    · by_cases hl : n = n'
      · have hd : Hid (decide (xs.length = ys.length) = true) := decide_eq_true (by omega)
        have ht := ieq_true (show (n : Int) = (n' : Int) by omega)
        clear hnl hnl' hl
        go_enter Try.func97, Try.ntmps97
        go_wp2_with (first | (go_at_call 50; refine (isRow_any _ ys _ hu1 HY.out).mono ?_; rw [H2.out]; rintro e w2 ⟨rfl, hq2⟩; have hq3 := hq1.trans hq2) | (go_at_call 50; refine (isRow_any _ xs _ HV.out HX.out).mono ?_; rw [H1.out]; rintro e w1 ⟨rfl, hq1⟩; have hu1 := hud.out _ hq1))
        go_ret
        exact ⟨ret_bool (by rw [hd.out]; rfl), hq3⟩
      · have hd : Hid (decide (xs.length = ys.length) = false) := decide_eq_false (by omega)
        have ht := ieq_false (show ¬ (n : Int) = (n' : Int) by omega)
        clear hnl hnl' hl
        go_enter Try.func97, Try.ntmps97
        go_wp2_with (first | (go_at_call 50; refine (isRow_any _ ys _ hu1 HY.out).mono ?_; rw [H2.out]; rintro e w2 ⟨rfl, hq2⟩; have hq3 := hq1.trans hq2) | (go_at_call 50; refine (isRow_any _ xs _ HV.out HX.out).mono ?_; rw [H1.out]; rintro e w1 ⟨rfl, hq1⟩; have hu1 := hud.out _ hq1))
        go_ret
        exact ⟨ret_bool (by rw [hd.out]; rfl), hq3⟩

end Go.Proofs.Ytmocfnpbofeiiaa

/- The spread of two rows. -/
namespace Go.Proofs.Ytmocfnpbofeiiaa
set_option linter.unusedSimpArgs false
set_option linter.unusedVariables false
open Go.RowKit


set_option maxHeartbeats 2000000 in
theorem impl_SpreadOf (w : World) (v : Value) (xs : List Nat) (hv : SlR w v (xs.map (Value.float .f32))) (hx : ∀ x ∈ xs, x < 4294967296) (_ : xs.length ≤ 1048576) (u : Value) (ys : List Nat) (hu : SlR w u (ys.map (Value.float .f32))) (hy : ∀ x ∈ ys, x < 4294967296) (_ : ys.length ≤ 1048576) :
    Calls Try.prog 47 #[v, u] w fun e w' => e = .returned (.tuple #[.float .f32 (out_SpreadOf xs ys).1, .bool (out_SpreadOf xs ys).2]) ∧ Below w.heap.size w w' := by
  have HX := Lib.hid hx
  have HY := Lib.hid hy
  have HVB := Lib.hid (fun (W : World) (hq : Below w.heap.size w W) => hv.below hq)
  have HUB := Lib.hid (fun (W : World) (hq : Below w.heap.size w W) => hu.below hq)
  clear hx hy
  generalize hd : twB xs ys = d
  have HD := Lib.hid hd
  have HV := Lib.hid hv
  have HU := Lib.hid hu
  cases d
  · rw [sp_no hd]
    clear hd hv hu
    go_enter Try.func47, Try.ntmps47
    go_wp2_with (go_at_call 97; refine (areRows_any _ _ xs ys _ HV.out HU.out HX.out HY.out).mono ?_; rw [HD.out]; rintro e w1 ⟨rfl, hq1⟩)
    go_ret2
    exact ⟨rfl, hq1.below _⟩
  · obtain ⟨rx, ry, he⟩ := twB_split hd
    obtain ⟨ex, lx⟩ := row_en rx
    obtain ⟨ey, ly⟩ := row_en ry
    obtain ⟨s1, ⟨s2, s3⟩, s4, s5⟩ := sp_some hd
    rw [sp_yes hd]
    have EX := Lib.hid ex
    have EY := Lib.hid ey
    have EM := Lib.hid (mxL_en ex ey he)
    have LX := Lib.hid lx
    have LY := Lib.hid ly
    have LM : Hid ((mxL xs ys xs.length).length ≤ 64) := by show (mxL xs ys xs.length).length ≤ 64; rw [mxL_length]; exact lx
    have HE := Lib.hid he
    have h4 : fA .mul .f32 1056964608 (fA .add .f32 (entF xs) (entF ys)) = spH xs ys := rfl
    have h5 : spV xs ys = fA .sub .f32 (entF (mxL xs ys xs.length)) (spH xs ys) := rfl
    rw [h5]
    clear h5 hd hv hu rx ry ex ey lx ly he
    obtain ⟨ea, hea⟩ : ∃ ea, ea = entF xs := ⟨_, rfl⟩
    obtain ⟨eb, heb⟩ : ∃ eb, eb = entF ys := ⟨_, rfl⟩
    obtain ⟨em, hem⟩ : ∃ em, em = entF (mxL xs ys xs.length) := ⟨_, rfl⟩
    obtain ⟨hh, hhh⟩ : ∃ hh, hh = spH xs ys := ⟨_, rfl⟩
    rw [← hea, ← heb] at s1 s2 s3 s4 h4
    rw [← hhh] at s3 s5 h4 ⊢
    rw [← hem] at s5 ⊢
    have HEA := Lib.hid hea
    have HEB := Lib.hid heb
    have HEM := Lib.hid hem
    clear hea heb hem hhh
    go_enter Try.func47, Try.ntmps47
    go_wp2_with (first
      | (go_at_call 80; refine (entropy_any _ _ _ (SlR.own hop) EM.out LM.out).mono ?_; rw [← HEM.out]; rintro e w5 ⟨rfl, hq5⟩; have hb5 := hb4.trans (hq5.below _))
      | (go_at_call 80; refine (entropy_any _ ys _ hu2 EY.out LY.out).mono ?_; rw [← HEB.out]; rintro e w3 ⟨rfl, hq3⟩; have hb3 := hb2.trans (hq3.below _); have hv3 := HVB.out _ hb3; have hu3 := HUB.out _ hb3)
      | (go_at_call 80; refine (entropy_any _ xs _ hv1 EX.out LX.out).mono ?_; rw [← HEA.out]; rintro e w2 ⟨rfl, hq2⟩; have hb2 := hb1.trans (hq2.below _); have hu2 := HUB.out _ hb2)
      | (go_at_call 98; refine (mixed_any _ _ xs ys _ hv3 hu3 EX.out EY.out HE.out LX.out).mono ?_; rintro e w4 ⟨ap, cp, rfl, hop, hbp⟩; have hb4 := hb3.trans (hbp.mono hb3.size))
      | (go_at_call 63; refine (asNumber_any _ _).mono ?_; rintro e w6 ⟨rfl, hq6⟩)
      | (go_at_call 97; refine (areRows_any _ _ xs ys _ HV.out HU.out HX.out HY.out).mono ?_; rw [HD.out]; rintro e w1 ⟨rfl, hq1⟩; have hb1 := hq1.below w.heap.size; have hv1 := HVB.out _ hb1))
    go_ret2
    exact ⟨rfl, hb5.trans (hq6.below _)⟩

end Go.Proofs.Ytmocfnpbofeiiaa
