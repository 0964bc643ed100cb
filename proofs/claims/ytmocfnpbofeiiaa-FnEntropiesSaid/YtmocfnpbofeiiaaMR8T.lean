/- Tables drawn from bytes (R8Table). -/
import Derived.Test.YtmocfnpbofeiiaaMTbF
import Derived.Test.YtmocfnpbofeiiaaMR8C
import Derived.Test.YtmocfnpbofeiiaaMCpt
namespace Go.Proofs.Ytmocfnpbofeiiaa
set_option linter.unusedSimpArgs false
set_option linter.unusedVariables false
open Go.RowKit
open Ieee
theorem fw_exact {k : Nat} (hk : k < 2000) : Fnt single (fw k) ∧ sv single (fw k) = (k : Rat) := foi_exact k hk
theorem rq_cntW {k s : Nat} (hk : k < 100) (h1 : 1 ≤ s) (hs : s < 129) (hks : k ≤ s) : (floatBits .quo .f32 (fw k) (fw s)).isSome = true ∧ Rq (1 / 8000000) (fA .quo .f32 (fw k) (fw s)) ((k : Rat) / (s : Rat)) := by
  have s1 : (1 : Rat) ≤ (s : Rat) := by exact_mod_cast h1
  have s2 := nat_rat (show s ≤ 128 by omega)
  rw [show ((128 : Nat) : Rat) = 128 from rfl] at s2
  have ks := nat_rat hks
  obtain ⟨f1, v1⟩ := fw_exact (show k < 2000 by omega)
  obtain ⟨f2, v2⟩ := fw_exact (show s < 2000 by omega)
  obtain ⟨q, hq⟩ : ∃ q : Rat, q = (k : Rat) / (s : Rat) := ⟨_, rfl⟩
  have hqs : q * (s : Rat) = (k : Rat) := by rw [hq]; exact Rat.div_mul_cancel (by grind)
  by_cases h0 : k = 0
  · subst h0
    have sz : 0 < fw s := by
      rcases Nat.eq_zero_or_pos (fw s) with h | h
      · rw [h, show sv single 0 = 0 by decide +kernel] at v2
        rw [← v2] at s1
        exact absurd s1 (by decide +kernel)
      · exact h
    have hlt : ∀ s : Nat, s < 129 → fw s < 2139095040 := by decide +kernel
    rw [show fw 0 = 0 by decide +kernel, show ((0 : Nat) : Rat) = 0 from rfl, show (0 : Rat) / (s : Rat) = 0 by rw [Rat.div_def, Rat.zero_mul]]
    obtain ⟨a, b⟩ := fA_quo0 (hlt s hs) sz
    rw [b]
    exact ⟨a, Rq.zero _⟩
  · have k1 : (1 : Rat) ≤ (k : Rat) := by exact_mod_cast (show 1 ≤ k by omega)
    have r0 : rg single (fw s) ≠ 0 := by
      intro h
      rw [sv_rg0 h] at v2
      grind
    obtain ⟨w, w1, w2⟩ := div_rnd (k_hf .f32) f1 f2 r0
    obtain ⟨a1, a2⟩ := fA_of (op := .quo) (k := .f32) w1
    rw [a2]
    rw [show FloatKind.f32.format = single from rfl, v1, v2, ← hq] at w2
    rw [← hq]
    have q0 : 1 / 10000 ≤ q := by
      by_cases hc : 1 / 10000 ≤ q
      · exact hc
      · have := Rat.mul_lt_mul_of_pos_right (show q < 1 / 10000 by grind) (show 0 < (s : Rat) by grind)
        grind
    have q1 : q ≤ 2 := by
      by_cases hc : q ≤ 2
      · exact hc
      · have := Rat.mul_lt_mul_of_pos_right (show 2 < q by grind) (show 0 < (s : Rat) by grind)
        grind
    exact ⟨a1, rq_of (d := 0) w2 q0 q1 (by rw [show q - q = 0 by grind, Rat.zero_mul]; decide +kernel) (by decide +kernel) (by decide +kernel) (by decide +kernel)⟩
theorem rq_cnt {k s : Nat} (hk : k < 9) (h1 : 1 ≤ s) (hs : s < 129) (hks : k ≤ s) : (floatBits .quo .f32 (fw k) (fw s)).isSome = true ∧ Rq (1 / 8000000) (fA .quo .f32 (fw k) (fw s)) ((k : Rat) / (s : Rat)) := rq_cntW (by omega) h1 hs hks
theorem Cn.rw1 {cs : List Nat} {n : Nat} (h : Cn cs n) (hn1 : 1 ≤ n) (hn : n ≤ 16) : Rw1 (1 / 8000000) (rowK cs) n (psC cs) := by
  refine ⟨by rw [rowK_len, h.len], hn1, by omega, fun i hi => ?_, h.ps_one hn1⟩
  obtain ⟨c1, c2, c3⟩ := h.at hn1 hi
  obtain ⟨s1, s2⟩ := h.sum hn1
  rw [c3]
  exact (rq_cnt c1 s1 (by omega) c2).2
/-- Rows and columns of a row. -/
theorem Rw1.table {d : Rat} {xs : List Nat} {p : Nat → Rat} {a m : Nat} (h : Rw1 d xs (a * m) p) (a1 : 1 ≤ a) (a2 : a ≤ 8) (m1 : 1 ≤ m) (m2 : m ≤ 8) : Tb d xs a m (fun i k => p (i * m + k)) := by
  refine ⟨h.len, a1, a2, m1, m2, fun i hi k hk => h.el _ ?_, ?_⟩
  · have := row_le (m := m) hi
    rw [Nat.add_mul, Nat.one_mul] at this
    omega
  · rw [← h.one, smN_flat]

theorem cellKeep {W W' : World} {a : Addr} {x : Value} {g : Nat} (h : W.cell? a = some x) (hg : W.grownBy W' (some g)) (hne : a.block ≠ g) : W'.cell? a = some x :=
  cell_grown (u := .slice (some ⟨g, 0, none⟩) 0 0) h hg (fun k hk => by simp [Value.ownBlock] at hk; omega)
theorem frozenKeep {W W' : World} {a : Addr} {x : Bool} {g : Nat} (h : W.frozen? a = x) (hl : a.block < W.heap.size) (hg : W.grownBy W' (some g)) (hne : a.block ≠ g) : W'.frozen? a = x := by
  have hb := hg.block a.block hl (fun e => hne (Option.some.inj e))
  unfold World.frozen? at h ⊢
  rw [hb]
  exact h

set_option maxRecDepth 4000 in
set_option maxHeartbeats 4000000 in
theorem l02DrawTableOk_any (w0 W : World) (b m : Nat) (sv : Value) (l : List UInt8) (hl : l.length ≤ 1048576) (hm : m ≤ 900) (hv : SlR w0 sv (byv l)) (h : Src w0 b sv m W) :
    Calls Try.prog 76 #[.pointer (some ⟨b, 0, none⟩)] W fun e w' => (∃ (cs : List Nat) (r c n : Nat) (a : Option Addr) (c' : Nat), 1 ≤ r ∧ r ≤ 4 ∧ 1 ≤ c ∧ c ≤ 4 ∧ n = r * c ∧ Cn cs n ∧ e = .returned (.agg #[.int .i64 (r : Int), .int .i64 (c : Int), .slice a n c']) ∧ w'.ownsRow W.heap.size 32 1 (.slice a n c') n ((rowK cs).map (Value.float .f32))) ∧ W.grownBy w' (some b) := by
  have HP : Hid (∀ (W' : World) (j : Nat), j ≤ 1000 → Src w0 b sv j W' → Calls Try.prog 108 #[.pointer (some ⟨b, 0, none⟩), .int .i64 4] W' fun e w' => (∃ x : Nat, x < 4 ∧ e = .returned (.int .i64 (x : Int))) ∧ Src w0 b sv (j + 1) w' ∧ W'.grownBy w' (some b)) := Lib.hid fun W' j hj hs => pick_any w0 W' b j 4 sv l hl (by omega) (by omega) (by omega) hv hs
  have HR : Hid (∀ (W' : World) (n : Nat), 1 ≤ n → n ≤ 16 → Src w0 b sv (m + 2) W' → Calls Try.prog 59 #[.pointer (some ⟨b, 0, none⟩), .int .i64 (n : Int)] W' fun e w' => (∃ (cs : List Nat) (a : Option Addr) (c : Nat), Cn cs n ∧ e = .returned (.slice a n c) ∧ w'.ownsRow W'.heap.size 32 1 (.slice a n c) n ((rowK cs).map (Value.float .f32))) ∧ Src w0 b sv (m + 2 + n) w' ∧ W'.grownBy w' (some b)) := Lib.hid fun W' n h1 h2 hs => l02DrawRow_any w0 W' b (m + 2) n sv l hl (by omega) h1 h2 hv hs
  have hbW : b < W.heap.size := h.2.1
  clear hv
  have hb0 : Below W.heap.size W (W.alloc (.cells #[.int .i64 0, .int .i64 0, .slice none 0 0] 47)) := by go_grown
  have hs0 := h.below (hb0.mono (by omega))
  have hg0 : W.grownBy (W.alloc (.cells #[.int .i64 0, .int .i64 0, .slice none 0 0] 47)) (some b) := grown_then (World.grownBy.refl _ _) hb0
  obtain ⟨W0, hW0⟩ : ∃ W0, W0 = W.alloc (.cells #[.int .i64 0, .int .i64 0, .slice none 0 0] 47) := ⟨_, rfl⟩
  have hsz0 : W0.heap.size = W.heap.size + 1 := by rw [hW0]; simp
  have d0 : W0.cell? ⟨W.heap.size, 0, none⟩ = some (.int .i64 0) := by rw [hW0]; go_cell
  have d1 : W0.cell? ⟨W.heap.size, 1, none⟩ = some (.int .i64 0) := by rw [hW0]; go_cell
  have d2 : W0.cell? ⟨W.heap.size, 2, none⟩ = some (.slice none 0 0) := by rw [hW0]; go_cell
  have x0 : W0.frozen? ⟨W.heap.size, 0, none⟩ = false := by rw [hW0, World.frozen?_alloc_at]; simp
  have x1 : W0.frozen? ⟨W.heap.size, 1, none⟩ = false := by rw [hW0, World.frozen?_alloc_at]; simp
  have x2 : W0.frozen? ⟨W.heap.size, 2, none⟩ = false := by rw [hW0, World.frozen?_alloc_at]; simp
  have HD : Hid (∀ W', W0.grownBy W' (some b) → (W'.cell? ⟨W.heap.size, 0, none⟩ = some (.int .i64 0) ∧ W'.cell? ⟨W.heap.size, 1, none⟩ = some (.int .i64 0) ∧ W'.cell? ⟨W.heap.size, 2, none⟩ = some (.slice none 0 0)) ∧ W'.frozen? ⟨W.heap.size, 0, none⟩ = false ∧ W'.frozen? ⟨W.heap.size, 1, none⟩ = false ∧ W'.frozen? ⟨W.heap.size, 2, none⟩ = false) := Lib.hid fun W' hg => ⟨⟨cellKeep d0 hg (by show W.heap.size ≠ b; omega), cellKeep d1 hg (by show W.heap.size ≠ b; omega), cellKeep d2 hg (by show W.heap.size ≠ b; omega)⟩, frozenKeep x0 (by show W.heap.size < _; omega) hg (by show W.heap.size ≠ b; omega), frozenKeep x1 (by show W.heap.size < _; omega) hg (by show W.heap.size ≠ b; omega), frozenKeep x2 (by show W.heap.size < _; omega) hg (by show W.heap.size ≠ b; omega)⟩
  clear d0 d1 d2 x0 x1 x2
  rw [← hW0] at hb0 hs0 hg0
  have HP0 := Lib.hid (HP.out _ m (by omega) hs0)
  have HG0 := Lib.hid hg0
  go_enter Try.func76, Try.ntmps76
  go_upto_region 1 with fail
  rw [← hW0]
  clear hW0
  go_upto_region 2 with (go_at_call 108; refine HP0.out.mono ?_; rintro e w1 ⟨⟨x, hx, rfl⟩, hs1, hg1⟩)
  have hg1s := hg1.size
  have hb1 : Below w1.heap.size w1 (w1.alloc (.cells #[.int .i64 (1 + (x : Int)), .int .i64 0, .slice none 0 0] 47)) := by go_grown
  have hs1' := hs1.below (hb1.mono (by omega))
  have hg1' := grown_then hg1 (hb1.mono (by omega))
  have HP1 := Lib.hid (HP.out _ (m + 1) (by omega) hs1')
  have ex : (1 : Int) + (x : Int) = ((1 + x : Nat) : Int) := by omega
  rw [ex]
  rw [ex] at HP1 hs1' hg1' hb1
  generalize 1 + x = r at *
  obtain ⟨W3, hW3⟩ : ∃ W3, W3 = w1.alloc (.cells #[.int .i64 (r : Int), .int .i64 0, .slice none 0 0] 47) := ⟨_, rfl⟩
  rw [← hW3] at HP1 hs1' hg1' hb1 ⊢
  have hsz3 : W3.heap.size = w1.heap.size + 1 := by rw [hW3]; simp
  have f0 : W3.cell? ⟨w1.heap.size, 0, none⟩ = some (.int .i64 (r : Int)) := by rw [hW3]; go_cell
  have z1 : W3.frozen? ⟨w1.heap.size, 1, none⟩ = false := by rw [hW3, World.frozen?_alloc_at]; simp
  have z2 : W3.frozen? ⟨w1.heap.size, 2, none⟩ = false := by rw [hW3, World.frozen?_alloc_at]; simp
  have f1 : W3.cell? ⟨w1.heap.size, 1, none⟩ = some (.int .i64 0) := by rw [hW3]; go_cell
  have f2 : W3.cell? ⟨w1.heap.size, 2, none⟩ = some (.slice none 0 0) := by rw [hW3]; go_cell
  clear hW3
  have HK : Hid (∀ W', W3.grownBy W' (some b) → (W'.cell? ⟨w1.heap.size, 0, none⟩ = some (.int .i64 (r : Int)) ∧ W'.cell? ⟨w1.heap.size, 1, none⟩ = some (.int .i64 0) ∧ W'.cell? ⟨w1.heap.size, 2, none⟩ = some (.slice none 0 0)) ∧ W'.frozen? ⟨w1.heap.size, 1, none⟩ = false ∧ W'.frozen? ⟨w1.heap.size, 2, none⟩ = false) := Lib.hid fun W' hg => ⟨⟨cellKeep f0 hg (by show w1.heap.size ≠ b; omega), cellKeep f1 hg (by show w1.heap.size ≠ b; omega), cellKeep f2 hg (by show w1.heap.size ≠ b; omega)⟩, frozenKeep z1 (by show w1.heap.size < _; omega) hg (by show w1.heap.size ≠ b; omega), frozenKeep z2 (by show w1.heap.size < _; omega) hg (by show w1.heap.size ≠ b; omega)⟩
  clear f0 f1 f2 z1 z2
  go_upto_region 3 with (go_at_call 108; refine HP1.out.mono ?_; rintro e w2 ⟨⟨y, hy, rfl⟩, hs2, hg2⟩; obtain ⟨⟨f0, f1, f2⟩, z1, z2⟩ := HK.out w2 hg2)
  have r1 : 1 ≤ r := by omega
  have r4 : r ≤ 4 := by omega
  have ey : (1 : Int) + (y : Int) = ((1 + y : Nat) : Int) := by omega
  rw [ey]
  have c1 : 1 ≤ 1 + y := by omega
  have c4 : 1 + y ≤ 4 := by omega
  clear ey ex hx hy
  generalize 1 + y = c at *
  have hg2s := hg2.size
  have hb4 : Below w1.heap.size w2 (w2.setCell ⟨w1.heap.size, 1, none⟩ (.int .i64 (c : Int))) := (Below.refl _ _).setCell (p := ⟨w1.heap.size, 1, none⟩) (Nat.le_refl _) _
  have hs4 := hs2.below (hb4.mono (by omega))
  have hG4 := grownBy_trans hg1' hg2
  obtain ⟨W4, hW4⟩ : ∃ W4, W4 = w2.setCell ⟨w1.heap.size, 1, none⟩ (.int .i64 (c : Int)) := ⟨_, rfl⟩
  have hsz4 : W4.heap.size = w2.heap.size := by rw [hW4]; simp
  have k0 : W4.cell? ⟨w1.heap.size, 0, none⟩ = some (.int .i64 (r : Int)) := by rw [hW4]; go_cell
  have k1 : W4.cell? ⟨w1.heap.size, 1, none⟩ = some (.int .i64 (c : Int)) := by rw [hW4]; go_cell
  have k2 : W4.cell? ⟨w1.heap.size, 2, none⟩ = some (.slice none 0 0) := by rw [hW4]; go_cell
  have y2 : W4.frozen? ⟨w1.heap.size, 2, none⟩ = false := by rw [hW4, World.frozen?_setCell]; exact z2
  rw [← hW4] at hs4 hb4 ⊢
  clear hW4
  have n1 : 1 ≤ r * c := Nat.mul_pos r1 c1
  have n16 : r * c ≤ 16 := Nat.mul_le_mul r4 c4
  have HR4 := Lib.hid (HR.out W4 (r * c) n1 n16 hs4)
  have HK4 : Hid (∀ W', W4.grownBy W' (some b) → (W'.cell? ⟨w1.heap.size, 0, none⟩ = some (.int .i64 (r : Int)) ∧ W'.cell? ⟨w1.heap.size, 1, none⟩ = some (.int .i64 (c : Int)) ∧ W'.cell? ⟨w1.heap.size, 2, none⟩ = some (.slice none 0 0)) ∧ W'.frozen? ⟨w1.heap.size, 2, none⟩ = false) := Lib.hid fun W' hg => ⟨⟨cellKeep k0 hg (by show w1.heap.size ≠ b; omega), cellKeep k1 hg (by show w1.heap.size ≠ b; omega), cellKeep k2 hg (by show w1.heap.size ≠ b; omega)⟩, frozenKeep y2 (by show w1.heap.size < _; omega) hg (by show w1.heap.size ≠ b; omega)⟩
  have hmul : (r : Int) * (c : Int) = ((r * c : Nat) : Int) := by push_cast; rfl
  have hG5 := grown_then hG4 (hb4.mono (show W0.heap.size ≤ w1.heap.size by omega))
  clear HP HP0 HP1 hs0 hs1 hs1' hs2 hs4 hg0 hg1 hg1' hg2 hb0 hb1 HR k2 y2 f0 f1 f2 z1 z2 h HK hG4 hb4
  generalize r * c = n at *
  go_upto_region 4 with (go_at_call 59; refine HR4.out.mono ?_; rintro e w5 ⟨⟨cs, a5, c5, hcn, rfl, ho5⟩, hs5, hg5⟩; obtain ⟨⟨e0, e1, e2⟩, x2⟩ := HK4.out w5 hg5)
  clear k0 k1 HR4
  have hs5z := hg5.size
  have hg6 := grownBy_trans hG5 hg5
  obtain ⟨⟨d0, d1, d2⟩, z0, z1, z2⟩ := HD.out w5 hg6
  have hne : W.heap.size ≠ w1.heap.size := by omega
  go_wp2
  have hn : n = r * c := by exact_mod_cast hmul.symm
  clear hmul
  refine bodyPost_ret (v := .agg #[.int .i64 (r : Int), .int .i64 (c : Int), .slice a5 n c5]) (by simp [results, Try.results76, go_sem, *]) rfl ?_
  have o1 := ownsRow_setCell_below (a := ⟨w1.heap.size, 2, none⟩) ho5 (show w1.heap.size < W4.heap.size by omega) (.slice a5 n c5)
  have o2 := ownsRow_setCell_below (a := ⟨W.heap.size, 0, none⟩) o1 (show W.heap.size < W4.heap.size by omega) (.int .i64 (r : Int))
  have o3 := ownsRow_setCell_below (a := ⟨W.heap.size, 1, none⟩) o2 (show W.heap.size < W4.heap.size by omega) (.int .i64 (c : Int))
  have o4 := ownsRow_setCell_below (a := ⟨W.heap.size, 2, none⟩) o3 (show W.heap.size < W4.heap.size by omega) (.slice a5 n c5)
  refine ⟨⟨cs, r, c, n, a5, c5, r1, r4, c1, c4, hn, hcn, rfl, ownsRow_base o4 (by omega)⟩, ?_⟩
  refine grown_then (grownBy_trans HG0.out hg6) ?_
  exact ((((Below.refl W.heap.size w5).setCell (p := ⟨w1.heap.size, 2, none⟩) (show W.heap.size ≤ w1.heap.size by omega) _).setCell (p := ⟨W.heap.size, 0, none⟩) (Nat.le_refl _) _).setCell (p := ⟨W.heap.size, 1, none⟩) (Nat.le_refl _) _).setCell (p := ⟨W.heap.size, 2, none⟩) (Nat.le_refl _) _

set_option maxRecDepth 10000 in
set_option maxHeartbeats 2000000 in
theorem R8Table_any (w : World) (sv : Value) (l : List UInt8) (hl : l.length ≤ 1048576) (hv : SlR w sv (byv l)) :
    Calls Try.prog 26 #[sv] w fun e w' => (∃ (cs : List Nat) (r c : Nat) (u : Value), 1 ≤ r ∧ r ≤ 4 ∧ 1 ≤ c ∧ c ≤ 4 ∧ Cn cs (r * c) ∧ e = .returned (.agg #[.int .i64 (r : Int), .int .i64 (c : Int), u]) ∧ SlR w' u ((rowK cs).map (Value.float .f32))) ∧ Below w.heap.size w w' := by
  have hb0 : Below w.heap.size w (w.alloc (.cells #[.int .i64 0, .int .i64 0, .slice none 0 0] 47)) := by go_grown
  obtain ⟨W0, hW0⟩ : ∃ W0, W0 = w.alloc (.cells #[.int .i64 0, .int .i64 0, .slice none 0 0] 47) := ⟨_, rfl⟩
  have hsz0 : W0.heap.size = w.heap.size + 1 := by rw [hW0]; simp
  have d0 : W0.cell? ⟨w.heap.size, 0, none⟩ = some (.int .i64 0) := by rw [hW0]; go_cell
  have d1 : W0.cell? ⟨w.heap.size, 1, none⟩ = some (.int .i64 0) := by rw [hW0]; go_cell
  have d2 : W0.cell? ⟨w.heap.size, 2, none⟩ = some (.slice none 0 0) := by rw [hW0]; go_cell
  have x0 : W0.frozen? ⟨w.heap.size, 0, none⟩ = false := by rw [hW0, World.frozen?_alloc_at]; simp
  have x1 : W0.frozen? ⟨w.heap.size, 1, none⟩ = false := by rw [hW0, World.frozen?_alloc_at]; simp
  have x2 : W0.frozen? ⟨w.heap.size, 2, none⟩ = false := by rw [hW0, World.frozen?_alloc_at]; simp
  rw [← hW0] at hb0
  have HF := Lib.hid (from_any W0 sv l (hv.below hb0))
  have HC := Lib.hid (fun (W : World) (hs : Src W0 W0.heap.size sv 0 W) => l02DrawTableOk_any W0 W W0.heap.size 0 sv l hl (by omega) (hv.below hb0) hs)
  have HD : Hid (∀ W', Below W0.heap.size W0 W' → (W'.cell? ⟨w.heap.size, 0, none⟩ = some (.int .i64 0) ∧ W'.cell? ⟨w.heap.size, 1, none⟩ = some (.int .i64 0) ∧ W'.cell? ⟨w.heap.size, 2, none⟩ = some (.slice none 0 0)) ∧ W'.frozen? ⟨w.heap.size, 0, none⟩ = false ∧ W'.frozen? ⟨w.heap.size, 1, none⟩ = false ∧ W'.frozen? ⟨w.heap.size, 2, none⟩ = false) := Lib.hid fun W' hg => ⟨⟨cell_step d0 hg, cell_step d1 hg, cell_step d2 hg⟩, (hg.frozen (p := ⟨w.heap.size, 0, none⟩) (by show w.heap.size < _; omega)).trans x0, (hg.frozen (p := ⟨w.heap.size, 1, none⟩) (by show w.heap.size < _; omega)).trans x1, (hg.frozen (p := ⟨w.heap.size, 2, none⟩) (by show w.heap.size < _; omega)).trans x2⟩
  clear d0 d1 d2 x0 x1 x2
  obtain ⟨a, k0, c0, rfl, -, -, -, -⟩ := SlR.opened (0 : UInt8) hv
  clear hv
  have HB0 := Lib.hid hb0
  have HS0 := Lib.hid hsz0
  clear hsz0
  go_enter Try.func26, Try.ntmps26
  go_upto_region 1 with fail
  rw [← hW0]
  clear hW0
  go_upto_region 2 with (go_at_call 58; refine HF.out.mono ?_; rintro e w1 ⟨rfl, hs, -⟩)
  have hbs := hs.2.2.1
  have hsl := hs.2.1
  have HC1 := Lib.hid (HC.out w1 hs)
  clear HF HC
  go_upto_region 3 with (go_at_call 76; refine HC1.out.mono ?_; rintro e w2 ⟨⟨cs, r, c, n, a5, c5, r1, r4, k1, k4, hn, hcn, rfl, ho⟩, hg⟩; have HN := Lib.hid hn; clear hn; have hb2 := hbs.grown hg (by omega) (by intro k hk; injection hk with hk; omega); obtain ⟨⟨d0, d1, d2⟩, z0, z1, z2⟩ := HD.out w2 hb2)
  clear HC1 HD
  go_wp2
  have hsz0 := HS0.out
  refine bodyPost_ret (v := .agg #[.int .i64 (r : Int), .int .i64 (c : Int), .slice a5 n c5]) (by simp [results, Try.results26, go_sem, *]) rfl ?_
  have o2 := ownsRow_setCell_below (a := ⟨w.heap.size, 0, none⟩) ho (show w.heap.size < w1.heap.size by omega) (.int .i64 (r : Int))
  have o3 := ownsRow_setCell_below (a := ⟨w.heap.size, 1, none⟩) o2 (show w.heap.size < w1.heap.size by omega) (.int .i64 (c : Int))
  have o4 := ownsRow_setCell_below (a := ⟨w.heap.size, 2, none⟩) o3 (show w.heap.size < w1.heap.size by omega) (.slice a5 n c5)
  refine ⟨⟨cs, r, c, _, r1, r4, k1, k4, by rw [← HN.out]; exact hcn, rfl, SlR.own o4⟩, ?_⟩
  exact (((HB0.out.trans (hb2.mono (by omega))).setCell (p := ⟨w.heap.size, 0, none⟩) (Nat.le_refl _) _).setCell (p := ⟨w.heap.size, 1, none⟩) (Nat.le_refl _) _).setCell (p := ⟨w.heap.size, 2, none⟩) (Nat.le_refl _) _

end Go.Proofs.Ytmocfnpbofeiiaa
