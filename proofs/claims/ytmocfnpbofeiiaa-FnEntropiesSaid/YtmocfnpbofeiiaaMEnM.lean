/- Rows mixed at a share, and even rows. -/
import Derived.Test.YtmocfnpbofeiiaaMR8T
import Derived.Test.YtmocfnpbofeiiaaMSpo
import Derived.Test.YtmocfnpbofeiiaaMTtP
namespace Go.Proofs.Ytmocfnpbofeiiaa
set_option linter.unusedSimpArgs false
set_option linter.unusedVariables false
open Go.RowKit
open Ieee
/-- The share k / 16 as a word. -/
def shW (k : Nat) : Nat := fA .quo .f32 (fw k) (fw 16)
def shC (k : Nat) : Nat := fA .sub .f32 1065353216 (shW k)
theorem sh_all : ∀ k : Nat, k < 17 → (floatBits .quo .f32 (fw k) (fw 16)).isSome = true ∧ shW k < 2139095040 ∧ (k = 0 → shW k = 0) ∧ sv single (shW k) = (k : Rat) / 16 ∧ (floatBits .sub .f32 1065353216 (shW k)).isSome = true ∧ shC k < 2139095040 ∧ (k = 16 → shC k = 0) ∧ sv single (shC k) = 1 - (k : Rat) / 16 ∧ (FloatKind.f32.format.order (shW k) 0 = some .gt ∨ FloatKind.f32.format.order (shW k) 0 = some .eq) ∧ (FloatKind.f32.format.order (shW k) 1065353216 = some .lt ∨ FloatKind.f32.format.order (shW k) 1065353216 = some .eq) ∧ (floatToFloatBits .f32 (shW k) .f64).isSome = true := by decide +kernel
theorem rq_exact {x : Nat} {v : Rat} (h1 : x < 2139095040) (h2 : v = 0 → x = 0) (h3 : v ≠ 0 → 1 / 10000 ≤ v) (h4 : v ≤ 2) (h5 : sv single x = v) : Rq 0 x v := ⟨h1, h2, h3, h4, by rw [h5, show v - v = 0 by grind, Rat.zero_mul]; decide +kernel⟩
theorem sh_rq {k : Nat} (hk : k < 17) : Rq 0 (shW k) ((k : Rat) / 16) ∧ Rq 0 (shC k) (1 - (k : Rat) / 16) := by
  obtain ⟨_, a1, a2, a3, _, b1, b2, b3, _, _, _⟩ := sh_all k hk
  have kr := nat_rat (show k ≤ 16 by omega)
  rw [show ((16 : Nat) : Rat) = 16 from rfl] at kr
  have k0 := nat_rat0 k
  refine ⟨rq_exact a1 (fun h => a2 ?_) (fun h => ?_) (by grind) a3, rq_exact b1 (fun h => b2 ?_) (fun h => ?_) (by grind) b3⟩
  · have : (k : Rat) = 0 := by grind
    exact_mod_cast this
  · have : k ≠ 0 := by rintro rfl; exact h (by rw [show ((0 : Nat) : Rat) = 0 from rfl]; decide +kernel)
    have : (1 : Rat) ≤ (k : Rat) := by exact_mod_cast (show 1 ≤ k by omega)
    grind
  · have : (k : Rat) = ((16 : Nat) : Rat) := by rw [show ((16 : Nat) : Rat) = 16 from rfl]; grind
    exact_mod_cast this
  · have : k ≠ 16 := by rintro rfl; exact h (by rw [show ((16 : Nat) : Rat) = 16 from rfl]; decide +kernel)
    have := nat_rat (show k + 1 ≤ 16 by omega)
    rw [nat_rat1, show ((16 : Nat) : Rat) = 16 from rfl] at this
    grind
def mxS (k : Nat) (xs ys : List Nat) (t : Nat) : List Nat := (List.range t).map fun i => fA .add .f32 (fA .mul .f32 (shC k) (xs[i]?.getD 0)) (fA .mul .f32 (shW k) (ys[i]?.getD 0))
theorem mxS_succ (k : Nat) (xs ys : List Nat) (t : Nat) : mxS k xs ys (t + 1) = mxS k xs ys t ++ [fA .add .f32 (fA .mul .f32 (shC k) (xs[t]?.getD 0)) (fA .mul .f32 (shW k) (ys[t]?.getD 0))] := by simp [mxS, List.range_succ]
theorem mxS_length (k : Nat) (xs ys : List Nat) (t : Nat) : (mxS k xs ys t).length = t := by simp [mxS]
def mxX (k : Nat) (p q : Nat → Rat) (i : Nat) : Rat := (1 - (k : Rat) / 16) * p i + (k : Rat) / 16 * q i
theorem mx_term {cs ds : List Nat} {n k : Nat} (h : Cn cs n) (g : Cn ds n) (n1 : 1 ≤ n) (n8 : n ≤ 8) (hk : k < 17) {i : Nat} (hi : i < n) :
    (floatBits .mul .f32 (shC k) ((rowK cs)[i]?.getD 0)).isSome = true ∧ (floatBits .mul .f32 (shW k) ((rowK ds)[i]?.getD 0)).isSome = true ∧ (floatBits .add .f32 (fA .mul .f32 (shC k) ((rowK cs)[i]?.getD 0)) (fA .mul .f32 (shW k) ((rowK ds)[i]?.getD 0))).isSome = true ∧
    Rq (1 / 2000000) (fA .add .f32 (fA .mul .f32 (shC k) ((rowK cs)[i]?.getD 0)) (fA .mul .f32 (shW k) ((rowK ds)[i]?.getD 0))) (mxX k (psC cs) (psC ds) i) := by
  have R := h.rw1 n1 (by omega)
  have S := g.rw1 n1 (by omega)
  have r1 := R.le1 hi
  have s1 := S.le1 hi
  have hr := h.rr n1 n8 hi
  have hs := g.rr n1 n8 hi
  obtain ⟨A, B⟩ := sh_rq hk
  have an := A.nn
  have bn := B.nn
  have kr := nat_rat (show k ≤ 16 by omega)
  rw [show ((16 : Nat) : Rat) = 16 from rfl] at kr
  have low : ∀ {s v : Rat}, (s = 0 ∨ 1 / 16 ≤ s) → (v = 0 ∨ 1 / 100 ≤ v) → s * v ≠ 0 → 1 / 10000 ≤ s * v := by
    intro s v hs hv h0
    rcases hs with e | e
    · rw [e, Rat.zero_mul] at h0; exact absurd rfl h0
    · rcases hv with f | f
      · rw [f, Rat.mul_zero] at h0; exact absurd rfl h0
      · have g1 := Rat.mul_le_mul_of_nonneg_right e (show 0 ≤ v by grind)
        grind
  have k0 := nat_rat0 k
  have c16 : (k : Rat) / 16 = 0 ∨ 1 / 16 ≤ (k : Rat) / 16 := by
    by_cases e : k = 0
    · left; rw [e]; decide +kernel
    · right
      have : (1 : Rat) ≤ (k : Rat) := by exact_mod_cast (show 1 ≤ k by omega)
      grind
  have d16 : 1 - (k : Rat) / 16 = 0 ∨ 1 / 16 ≤ 1 - (k : Rat) / 16 := by
    by_cases e : k = 16
    · left; rw [e]; decide +kernel
    · right
      have := nat_rat (show k + 1 ≤ 16 by omega)
      rw [nat_rat1, show ((16 : Nat) : Rat) = 16 from rfl] at this
      grind
  have m1 := Rat.mul_le_mul_of_nonneg_left r1.2 bn
  have m2 := Rat.mul_le_mul_of_nonneg_left s1.2 an
  obtain ⟨x1, x2⟩ := rq_mul (f := 1 / 3900000) B (R.el i hi) (low d16 hr.2.1) (by grind) (by decide +kernel) (by decide +kernel)
  obtain ⟨y1, y2⟩ := rq_mul (f := 1 / 3900000) A (S.el i hi) (low c16 hs.2.1) (by grind) (by decide +kernel) (by decide +kernel)
  obtain ⟨z1, z2⟩ := rq_add (f := 1 / 2000000) x2 y2 (by grind) (by decide +kernel) (by decide +kernel)
  exact ⟨x1, y1, z1, z2⟩
theorem mx_row {cs ds : List Nat} {n k : Nat} (h : Cn cs n) (g : Cn ds n) (n1 : 1 ≤ n) (n8 : n ≤ 8) (hk : k < 17) : Rw1 (1 / 2000000) (mxS k (rowK cs) (rowK ds) n) n (mxX k (psC cs) (psC ds)) := by
  refine ⟨mxS_length _ _ _ _, n1, by omega, fun i hi => ?_, ?_⟩
  · have e : (mxS k (rowK cs) (rowK ds) n)[i]?.getD 0 = fA .add .f32 (fA .mul .f32 (shC k) ((rowK cs)[i]?.getD 0)) (fA .mul .f32 (shW k) ((rowK ds)[i]?.getD 0)) := by simp [mxS, List.getElem?_map, List.getElem?_range hi]
    rw [e]
    exact (mx_term h g n1 n8 hk hi).2.2.2
  · unfold mxX
    rw [smN_add, smN_mul, smN_mul, h.ps_one n1, g.ps_one n1]
    grind

set_option maxRecDepth 4000 in
set_option maxHeartbeats 4000000 in
theorem mixedS_any {cs ds : List Nat} {n k : Nat} (h : Cn cs n) (g : Cn ds n) (n1 : 1 ≤ n) (n8 : n ≤ 8) (hk : k < 17) (w : World) (v u : Value) (hv : SlR w v ((rowK cs).map (Value.float .f32))) (hu : SlR w u ((rowK ds).map (Value.float .f32))) :
    Calls Try.prog 98 #[v, u, .float .f32 (shW k)] w (RetSl w 32 n ((mxS k (rowK cs) (rowK ds) n).map (Value.float .f32)) id) := by
  obtain ⟨i0, hi0, hz00, hz01, hz02⟩ := info_parts info_Float32S
  obtain ⟨b, off, c, rfl, _, _, xcell⟩ := sl_cells hv (show (rowK cs).length = n by rw [rowK_len, h.len]) n1
  obtain ⟨b2, off2, c2, rfl, _, _, ycell⟩ := sl_cells hu (show (rowK ds).length = n by rw [rowK_len, g.len]) n1
  have HX := Lib.hid xcell
  have HY := Lib.hid ycell
  have HT := Lib.hid (fun i hi => mx_term h g n1 n8 hk (i := i) hi)
  have s1 := (sh_all k hk).2.2.2.2.1
  have hsc : fA .sub .f32 1065353216 (shW k) = shC k := rfl
  clear hv hu xcell ycell h g
  generalize rowK cs = xs at *
  generalize rowK ds = ys at *
  go_enter Try.func98, Try.ntmps98
  go_wp2
  have hown0 : (w.alloc (.cells #[] 32)).ownsRow w.heap.size 32 1 (.slice (some ⟨w.heap.size, 0, none⟩) 0 0) 0 [] := World.ownsRow_made w #[] 0 (Nat.le_refl _) (Nat.zero_le _) rfl
  have hb0 : Below w.heap.size w (w.alloc (.cells #[] 32)) := by go_grown
  go_loopw [7, 13] (fun u i wr => ∃ t : Nat, t ≤ n ∧ i = .int .i64 (t : Int) ∧ wr.ownsRow w.heap.size 32 1 u t ((mxS k xs ys t).map (Value.float .f32)) ∧ Below w.heap.size w wr) (fun _ i _ => n - (intOf i).toNat)
  case atStart => exact ⟨0, Nat.zero_le _, rfl, hown0, hb0⟩
  case round =>
    clear hown0 hb0
    obtain ⟨t, ht, rfl, hown, hb⟩ := hrel
    have hbs := hb.size
    by_cases hlt : t < n
    · have hc := HX.out wr hb t hlt
      have hd := HY.out wr hb t hlt
      obtain ⟨g1, g2, g3, -⟩ := HT.out t hlt
      have HS := Lib.hid (mxS_succ k xs ys t)
      generalize xs[t]?.getD 0 = z at *
      generalize ys[t]?.getD 0 = y at *
      generalize shC k = sc at *
      generalize shW k = sh at *
      go_wp2_with (at_builtin; refine wpList_append_own _ rfl _ _ 25 rfl w.heap.size 32 i0 (.float .f32 0) 1 4 Try.underlying25 hi0 hz00 hz01 hz02 rfl (by decide) u7 _ _ rfl (hown.alloc _) ⟨(World.heap wr).size, 0, none⟩ 1 1 [.float .f32 (fA .add .f32 (fA .mul .f32 sc z) (fA .mul .f32 sh y))] rfl rfl (cell_one_new _ _ _) (one_oneCell rfl) (by unfold maxLen; omega) (by omega) (by simp only [World.size_alloc]; have := hb.size; omega) ?_; intro v1 w1 hown1 hgx _; have hb1 := app_below hb (by have := hb.size; omega) _ hgx hown (by omega))
      rw [map_snoc_f, ← HS.out] at hown1
      go_roundw
      case rel => exact ⟨t + 1, by omega, by go_num, hown1, hb1⟩
      case measure => simp [intOf]; omega
    · obtain rfl : n = t := by omega
      clear HT HX HY
      go_wp2
      go_ret
      exact RetSl.of (f := id) hown hb
theorem isShareK_any {k : Nat} (hk : k < 17) (w : World) : Calls Try.prog 75 #[.float .f32 (shW k)] w fun e w' => e = .returned (.bool true) ∧ w = w' := by
  obtain ⟨_, _, _, _, _, _, _, _, o1, o2, _⟩ := sh_all k hk
  generalize shW k = s at *
  rcases o1 with o1 | o1
  all_goals
    rcases o2 with o2 | o2
    all_goals
      go_enter Try.func75, Try.ntmps75
      go_wp2
      go_ret
      exact ⟨rfl, rfl⟩

set_option maxRecDepth 4000 in
set_option maxHeartbeats 4000000 in
theorem MixRows_any {cs ds : List Nat} {n k : Nat} (h : Cn cs n) (g : Cn ds n) (n1 : 1 ≤ n) (n8 : n ≤ 8) (hk : k < 17) (w : World) (v u : Value) (hv : SlR w v ((rowK cs).map (Value.float .f32))) (hu : SlR w u ((rowK ds).map (Value.float .f32))) :
    Calls Try.prog 45 #[v, u, .float .f32 (shW k)] w fun e w' => (∃ a c, e = .returned (.tuple #[.slice a n c, .bool true]) ∧ SlR w' (.slice a n c) ((mxS k (rowK cs) (rowK ds) n).map (Value.float .f32))) ∧ Below w.heap.size w w' := by
  have M := mx_row h g n1 n8 hk
  have HAR : Hid (∀ W z, SlR W z ((mxS k (rowK cs) (rowK ds) n).map (Value.float .f32)) → Calls Try.prog 68 #[z] W fun e w' => e = .returned (.tuple #[z, .bool true]) ∧ Qu W w') := Lib.hid fun W z hz => asRow_yes z _ W hz M.lt32 (M.row (by decide +kernel) (by decide +kernel) (by omega))
  have HTW : Hid (Calls Try.prog 97 #[v, u] w fun e w' => e = .returned (.bool true) ∧ Below w.heap.size w w') := Lib.hid (by
    have := areRows_any v u (rowK cs) (rowK ds) w hv hu (h.lt n1 n8) (g.lt n1 n8)
    rw [show twB (rowK cs) (rowK ds) = true by unfold twB; rw [h.row n1 n8, g.row n1 n8, rowK_len, rowK_len, h.len, g.len]; simp] at this
    exact this.mono (fun e w' h => by obtain ⟨h1, h2⟩ := h; exact ⟨h1, h2.below _⟩))
  have HMX : Hid (∀ W, Below w.heap.size w W → Calls Try.prog 98 #[v, u, .float .f32 (shW k)] W (RetSl W 32 n ((mxS k (rowK cs) (rowK ds) n).map (Value.float .f32)) id)) := Lib.hid fun W hW => mixedS_any h g n1 n8 hk W v u (hv.below hW) (hu.below hW)
  have HSH := Lib.hid (fun W => isShareK_any hk W)
  obtain ⟨va, vn, vc, rfl, -⟩ := SlR.opened 0 hv
  obtain ⟨ua, un, uc, rfl, -⟩ := SlR.opened 0 hu
  clear hv hu M h g
  generalize mxS k (rowK cs) (rowK ds) n = ms at *
  generalize shW k = sh at *
  go_enter Try.func45, Try.ntmps45
  go_wp2_with (first
    | (go_at_call 68; refine (HAR.out _ _ hr3).mono ?_; rintro e w4 ⟨rfl, hq4⟩)
    | (go_at_call 98; refine (HMX.out _ hb1).mono ?_; rintro e w3 ⟨A3, C3, rfl, ho3, hb3⟩; have hr3 := SlR.own ho3; have hb13 := hb1.trans (hb3.mono hb1.size))
    | (go_at_call 75; refine (HSH.out _).mono ?_; rintro e w' ⟨rfl, rfl⟩)
    | (go_at_call 97; refine HTW.out.mono ?_; rintro e w1 ⟨rfl, hb1⟩))
  go_ret2
  exact ⟨⟨A3, C3, rfl, hr3.below hq4.keep⟩, hb13.trans (hq4.keep.mono hb13.size)⟩

end Go.Proofs.Ytmocfnpbofeiiaa
