/- The law FnGuessed: the whole walk. -/
import Derived.Test.YtmocfnpbofeiiaaMGsL
import Derived.Test.YtmocfnpbofeiiaaMGsK
import Derived.Test.YtmocfnpbofeiiaaMGsN
import Derived.Test.YtmocfnpbofeiiaaMJos
import Derived.Test.YtmocfnpbofeiiaaMTtb
import Derived.Test.YtmocfnpbofeiiaaMB10
import Derived.Test.YtmocfnpbofeiiaaMRdb
import Derived.BigQuiet
namespace Go.Proofs.Ytmocfnpbofeiiaa
set_option linter.unusedSimpArgs false
set_option linter.unusedVariables false
open Go.RowKit
open Ieee
theorem run_max32 {x y : Nat} (hx : x < 2139095040) (hy : y < 2139095040) : ∀ (ats : Array TypeId) (t : TypeId) (W : World), (Builtin.max_ ats t #[.float .f32 x, .float .f32 y]).run Try.prog W = .ok (.float .f32 (max x y)) W := by
  intro ats t W
  rcases Nat.lt_trichotomy x y with h | h | h
  · have ho : FloatKind.f32.format.order x y = some .lt := by rw [show FloatKind.f32.format = single from rfl, order_pp (by omega) (by omega), Nat.compare_eq_lt.2 h]
    rw [Nat.max_eq_right (by omega)]
    simp [Builtin.max_, Builtin.max2, ho]
  · subst h
    have ho : FloatKind.f32.format.order x x = some .eq := by rw [show FloatKind.f32.format = single from rfl, order_pp (by omega) (by omega), Nat.compare_eq_eq.2 rfl]
    rw [Nat.max_self]
    cases hn : (FloatKind.f32.decode x).neg
    · simp [Builtin.max_, Builtin.max2, ho, hn]
    · simp [Builtin.max_, Builtin.max2, ho, hn]
  · have ho : FloatKind.f32.format.order x y = some .gt := by rw [show FloatKind.f32.format = single from rfl, order_pp (by omega) (by omega), Nat.compare_eq_gt.2 h]
    rw [Nat.max_eq_left (by omega)]
    simp [Builtin.max_, Builtin.max2, ho]

set_option maxRecDepth 100000 in
set_option maxHeartbeats 16000000 in
theorem guessed_walk (w : World) (a1 a2 : Option Addr) (c1 c2 : Nat) (code more : List UInt8) (nc nm : Nat) (hnc : code.length = nc) (hnm : more.length = nm) (hc : nc ≤ 1048576) (hm : nm ≤ 1048576) (s1 : SlR w (.slice a1 nc c1) (byv code)) (s2 : SlR w (.slice a2 nm c2) (byv more)) :
    Calls Try.prog 6 #[.slice a1 nc c1, .slice a2 nm c2] w fun e w' => e = .returned (.bool true) ∧ Below w.heap.size w w' := by
  have HL := Lib.hid (b10Long_any _ _ code more w s1 s2)
  rw [hnc, hnm, show (decide (1048576 < nc) || decide (1048576 < nm)) = false by simp; omega] at HL
  have HA0 := Lib.hid (b10At_any _ more 0 3 w (by omega) (by omega) (by omega) s2)
  have HA1 := Lib.hid (b10At_any _ more 1 3 w (by omega) (by omega) (by omega) s2)
  have l0 := atB_lt more 0 3 (by omega)
  have l1 := atB_lt more 1 3 (by omega)
  have HCH : Hid (∀ (W : World) (a m : Nat), Below w.heap.size w W → 2 ≤ a → a ≤ 4 → 2 ≤ m → m ≤ 4 → Calls Try.prog 38 #[.slice a1 nc c1, .int .i64 (a : Int), .int .i64 (m : Int)] W fun e w' => (∃ (css : List (List Nat)) (u : Value), css.length = a ∧ (∀ ks ∈ css, Bn ks m) ∧ e = .returned (.agg #[.int .i64 (a : Int), .int .i64 (m : Int), u]) ∧ SlR w' u ((flK css).map (Value.float .f32))) ∧ Below W.heap.size W w') := Lib.hid fun W a m hW h1 h2 h3 h4 => B10Channel_any W _ code a m (by omega) h1 h2 h3 h4 (s1.below hW)
  have HCC : Hid (∀ (W : World) (n : Nat), Below w.heap.size w W → 1 ≤ n → n ≤ 8 → Calls Try.prog 21 #[.slice a2 nm c2, .int .i64 (n : Int)] W fun e w' => (∃ (ks : List Nat) (v : Value), ks.length = n ∧ (∀ k ∈ ks, 1 ≤ k ∧ k ≤ 6) ∧ e = .returned v ∧ SlR w' v ((rowK ks).map (Value.float .f32))) ∧ Below W.heap.size W w') := Lib.hid fun W n hW h1 h2 => B10Chances_any W _ more n (by omega) h1 h2 (s2.below hW)
  clear s1 s2 hnc hnm
  generalize atB more 0 3 = t0 at *
  generalize atB more 1 3 = t1 at *
  obtain ⟨a, ha⟩ : ∃ a, a = 2 + t0 := ⟨_, rfl⟩
  obtain ⟨m, hm'⟩ : ∃ m, m = 2 + t1 := ⟨_, rfl⟩
  have e0 : (2 : Int) + (t0 : Int) = (a : Int) := by omega
  have e1 : (2 : Int) + (t1 : Int) = (m : Int) := by omega
  have ka1 : 2 ≤ a := by omega
  have ka2 : a ≤ 4 := by omega
  have km1 : 2 ≤ m := by omega
  have km2 : m ≤ 4 := by omega
  have HCH1 := Lib.hid (HCH.out w a m (Below.refl _ _) ka1 ka2 km1 km2)
  clear ha hm' HCH
  go_enter Try.func6, Try.ntmps6
  go_upto_region 3 with (go_at_call 19; refine HL.out.mono ?_; rintro e w' ⟨rfl, rfl⟩)
  go_upto_region 4 with (go_at_call 20; refine HA0.out.mono ?_; rintro e w' ⟨rfl, rfl⟩)
  go_upto_region 5 with (go_at_call 20; refine HA1.out.mono ?_; rintro e w' ⟨rfl, rfl⟩)
  go_upto_region 6 with (go_at_call 38; refine HCH1.out.mono ?_; rintro e w1 ⟨⟨css, u, hcl, hcb, rfl, hsl⟩, hb1⟩; obtain ⟨ua, un, uc, rfl, -⟩ := SlR.opened 0 hsl)
  obtain ⟨W2, hW2⟩ : ∃ W2, W2 = w1.alloc (.cells #[.int .i64 (a : Int), .int .i64 (m : Int), .slice ua un uc] 59) := ⟨_, rfl⟩
  obtain ⟨B7, hB7⟩ : ∃ B7, B7 = w1.heap.size := ⟨_, rfl⟩
  have hb2 : Below w.heap.size w W2 := by rw [hW2]; exact hb1.alloc hb1.size _
  have g0 : W2.cell? ⟨B7, 0, none⟩ = some (.int .i64 (a : Int)) := by rw [hW2, hB7]; go_cell
  have g1 : W2.cell? ⟨B7, 1, none⟩ = some (.int .i64 (m : Int)) := by rw [hW2, hB7]; go_cell
  have g2 : W2.cell? ⟨B7, 2, none⟩ = some (.slice ua un uc) := by rw [hW2, hB7]; go_cell
  have hsl2 : SlR W2 (.slice ua un uc) ((flK css).map (Value.float .f32)) := by rw [hW2]; exact hsl.below (by go_grown)
  rw [← hW2, ← hB7]
  clear hW2 hB7 hsl hb1 HL HA0 HA1 HCH1 e0 e1
  have HCC1 := Lib.hid (HCC.out W2 a hb2 (by omega) (by omega))
  go_upto_region 7 with (go_at_call 21; refine HCC1.out.mono ?_; rintro e w3 ⟨⟨ks, v, hk1, hk2, rfl, hv⟩, hb3⟩; obtain ⟨va, vn, vc, rfl, -⟩ := SlR.opened 0 hv)
  have hbn : Bn ks a := ⟨hk1, by omega, ka2, hk2⟩
  have hX := chx_of hcl hcb ka1 ka2 km1 km2
  have hR := hbn.rw1
  have hlo : ∀ i, i < a → 1 / 24 ≤ psC ks i := fun i hi => hbn.low hi
  have hbw3 := hb2.trans (hb3.mono hb2.size)
  have hx3 := hsl2.below hb3
  have g0 := cell_step g0 hb3
  have g1 := cell_step g1 hb3
  have g2 := cell_step g2 hb3
  clear HCC HCC1 hb3 hsl2 hb2 hk1 hk2 hcl hcb hbn
  generalize (fun (i k : Nat) => psC (css[i]?.getD []) k) = C at *
  generalize psC ks = p at *
  generalize flK css = xs at *
  generalize rowK ks = rs at *
  have T := hX.turn hR hlo
  have J := hX.joint hR hlo
  have hlen := hX.len
  have l16 : a * m ≤ 16 := Nat.mul_le_mul ka2 km2
  have l16' : m * a ≤ 16 := Nat.mul_le_mul km2 ka2
  have hx32 : ∀ x ∈ xs, x < 4294967296 := fun x hx => by
    obtain ⟨j, hj, rfl⟩ := List.mem_iff_getElem.1 hx
    have hjl : j < a * m := by rw [← hlen]; exact hj
    have e := hX.el (j / m) (Nat.div_lt_of_lt_mul (by rw [Nat.mul_comm]; exact hjl)) (j % m) (Nat.mod_lt _ (by omega))
    rw [Nat.div_add_mod' j m, List.getElem?_eq_getElem hj, Option.getD_some] at e
    have := e.1; omega
  have i64a : I64 (a : Int) := by unfold I64; omega
  have i64m : I64 (m : Int) := by unfold I64; omega
  have HBG : Hid (∀ W, Below w3.heap.size w3 W → Calls Try.prog 39 #[.agg #[.int .i64 (a : Int), .int .i64 (m : Int), .slice ua un uc], .slice va vn vc] W fun e w' => (∃ ad c, e = .returned (.tuple #[.slice ad m c, .float .f32 (mwO xs rs a m), .bool true]) ∧ SlR w' (.slice ad m c) (cnV (gL xs rs a m m))) ∧ Below W.heap.size W w') := Lib.hid fun W hW => BestGuesses_any hX hR hlo W _ _ (hx3.below hW) (hv.below hW)
  have HMB : Hid (∀ W, Below w3.heap.size w3 W → Calls Try.prog 40 #[.agg #[.int .i64 (a : Int), .int .i64 (m : Int), .slice ua un uc], .slice va vn vc] W fun e w' => e = .returned (.tuple #[.float .f32 (bwO xs rs a m), .bool true]) ∧ Below W.heap.size W w') := Lib.hid fun W hW => MissBound_any hX hR hlo W _ _ (hx3.below hW) (hv.below hW)
  have HJO : Hid (∀ W, Below w3.heap.size w3 W → Calls Try.prog 41 #[.agg #[.int .i64 (a : Int), .int .i64 (m : Int), .slice ua un uc], .slice va vn vc] W (RetRd W (a * m) ((jOf xs rs m a).map (Value.float .f32)) (fun v => .tuple #[.agg #[.int .i64 (a : Int), .int .i64 (m : Int), v], .bool true]))) := Lib.hid fun W hW => by
    have := spec_JointOf W a m i64a i64m _ xs (hx3.below hW) hx32 (by omega) _ rs (hv.below hW) hR.lt32 (by have := hR.len; omega)
    rw [outJN_yes (hX.fits hR hlo).2] at this
    simpa only [jOf_length] using this
  have HTT : Hid (∀ W z, SlR W z ((jOf xs rs m a).map (Value.float .f32)) → Calls Try.prog 42 #[.agg #[.int .i64 (a : Int), .int .i64 (m : Int), z]] W (RetRd W (m * a) ((tzO xs rs a m).map (Value.float .f32)) (fun v => .tuple #[.agg #[.int .i64 (m : Int), .int .i64 (a : Int), v], .bool true]))) := Lib.hid fun W z hz => by
    have hV := J.valid (by decide +kernel) (by decide +kernel)
    have hV2 := T.valid (by decide +kernel) (by decide +kernel)
    have := spec_TurnTable W a m i64a i64m z _ hz J.flat.lt32 (by rw [J.len]; omega)
    rw [outTT_yes (by unfold ttOk; rw [Int.toNat_natCast, Int.toNat_natCast, hV]; unfold tzO at hV2; rw [hV2]; rfl)] at this
    have tl : (turnOf (jOf xs rs m a) m a m).length = m * a := turnOf_length _ _ _ _
    simp only [tl] at this
    exact this
  have HGE : Hid (∀ W z, SlR W z ((tzO xs rs a m).map (Value.float .f32)) → Calls Try.prog 43 #[.agg #[.int .i64 (m : Int), .int .i64 (a : Int), z]] W fun e w' => e = .returned (.tuple #[.float .f32 (geS (tzO xs rs a m) a m), .bool true]) ∧ Below W.heap.size W w') := Lib.hid fun W z hz => sge_any T (by decide +kernel) (by decide +kernel) W z hz
  have HBK : Hid (∀ (W : World) (k : Nat), Below w3.heap.size w3 W → k < m → Calls Try.prog 44 #[.agg #[.int .i64 (a : Int), .int .i64 (m : Int), .slice ua un uc], .slice va vn vc, .int .i64 (k : Int)] W fun e w' => (∃ ad c, e = .returned (.tuple #[.slice ad a c, .bool true]) ∧ SlR w' (.slice ad a c) ((givenOf (tzO xs rs a m) a k).map (Value.float .f32))) ∧ Below W.heap.size W w') := Lib.hid fun W k hW hk => BackOf_any hX hR hlo k hk W _ _ (hx3.below hW) (hv.below hW)
  obtain ⟨f1, f2, f3, f4⟩ := hX.fanoW hR hlo
  obtain ⟨_, d, d0, d1, d2, M⟩ := hX.miss hR hlo
  have hmo := order_x0 (M.pos d2 (by have := (hX.rLe hR hlo).1; clear M; grind)).1 M.1
  have HLAST := Lib.hid (hX.last hR hlo)
  have HRT := Lib.hid (hX.rtAp hR hlo)
  have HBX := Lib.hid (fun k hk => hX.back hR hlo (k := k) hk)
  have HBS := Lib.hid (fun k hk => hX.backSum hR hlo (k := k) hk)
  have HBM := Lib.hid (fun k i hk hi => hX.backMax hR hlo (k := k) (i := i) hk hi)
  have HBL := Lib.hid (hX.bLt rs)
  have HMO := Lib.hid (most_ap hR)
  have HRE : Hid (∀ j, j < a → rs[j]?.getD 0 < 2139095040) := Lib.hid fun j hj => (hR.el j hj).1
  have HGL : Hid (∀ k, k < m → (gL xs rs a m m)[k]?.getD 0 = bO xs rs a m k) := Lib.hid fun k hk => by simp [gL, List.getElem?_map, List.getElem?_range hk]
  have hgl := gL_len xs rs a m m
  have hrl := hR.len
  obtain ⟨xb, xo, xc, xe, _, _, xcell⟩ := sl_cells hx3 hlen (Nat.mul_pos (by omega) (by omega))
  simp only [Value.slice.injEq] at xe
  obtain ⟨rfl, rfl, rfl⟩ := xe
  obtain ⟨rb, ro, rc, re, _, _, rcell⟩ := sl_cells hv hrl (by omega)
  simp only [Value.slice.injEq] at re
  obtain ⟨rfl, hvn, rfl⟩ := re
  obtain rfl := hvn.symm
  have HXC := Lib.hid xcell
  have HRC := Lib.hid rcell
  have HKP : Hid (∀ W, Below w3.heap.size w3 W → W.cell? ⟨B7, 0, none⟩ = some (.int .i64 (a : Int)) ∧ W.cell? ⟨B7, 1, none⟩ = some (.int .i64 (m : Int)) ∧ W.cell? ⟨B7, 2, none⟩ = some (.slice (some ⟨xb, xo, none⟩) (a * m) uc)) := Lib.hid fun W hW => ⟨cell_step g0 hW, cell_step g1 hW, cell_step g2 hW⟩
  clear hx3 hv xcell rcell hX hR hlo T J hx32 i64a i64m d0 d1 d2 M hlen
  generalize mwO xs rs a m = mw at *
  generalize bwO xs rs a m = bw at *
  generalize geS (tzO xs rs a m) a m = lw at *
  have B3 := Below.refl w3.heap.size w3
  go_upto_region 8 with (go_at_call 39; refine (HBG.out _ B3).mono ?_; rintro e w4 ⟨⟨A9, C9, rfl, hg9⟩, hb4⟩; have B4 := B3.trans (hb4.mono B3.size); obtain ⟨g0, g1, g2⟩ := HKP.out _ B4)
  clear HBG hb4 B3
  go_upto_region 9 with (go_at_call 40; refine (HMB.out _ B4).mono ?_; rintro e w5 ⟨rfl, hb5⟩; have B5 := B4.trans (hb5.mono B4.size); have hg9 := hg9.below hb5; obtain ⟨g0, g1, g2⟩ := HKP.out _ B5)
  clear HMB hb5 B4
  go_upto_region 10 with (go_at_call 41; refine (HJO.out _ B5).mono ?_; rintro e w6 ⟨AJ, CJ, rfl, hrj, hb6⟩; have B6 := B5.trans (hb6.mono B5.size); have hg9 := hg9.below hb6)
  clear HJO hb6 B5 g0 g1 g2
  generalize hnam : a * m = nam at *
  have HNAM := Lib.hid hnam
  generalize hnma : m * a = nma at *
  clear hnam hnma
  obtain ⟨W7, hW7⟩ : ∃ W7, W7 = w6.alloc (.cells #[.int .i64 (a : Int), .int .i64 (m : Int), .slice AJ nam CJ] 47) := ⟨_, rfl⟩
  obtain ⟨BJ, hBJ⟩ : ∃ BJ, BJ = w6.heap.size := ⟨_, rfl⟩
  have b7 : Below w6.heap.size w6 W7 := by rw [hW7]; go_grown
  have j0 : W7.cell? ⟨BJ, 0, none⟩ = some (.int .i64 (a : Int)) := by rw [hW7, hBJ]; go_cell
  have j1 : W7.cell? ⟨BJ, 1, none⟩ = some (.int .i64 (m : Int)) := by rw [hW7, hBJ]; go_cell
  have j2 : W7.cell? ⟨BJ, 2, none⟩ = some (.slice AJ nam CJ) := by rw [hW7, hBJ]; go_cell
  have B7' := B6.trans (b7.mono B6.size)
  have HT7 := Lib.hid (HTT.out W7 _ (hrj.below b7))
  have hg9 := hg9.below b7
  rw [← hW7, ← hBJ]
  clear hW7 hBJ b7 hrj HTT B6
  go_upto_region 11 with (go_at_call 42; refine HT7.out.mono ?_; rintro e w8 ⟨AT, CT, rfl, hrt, hb8⟩; have B8 := B7'.trans (hb8.mono B7'.size); have hg9 := hg9.below hb8)
  clear HT7 hb8 B7' j0 j1 j2
  obtain ⟨W9, hW9⟩ : ∃ W9, W9 = w8.alloc (.cells #[.int .i64 (m : Int), .int .i64 (a : Int), .slice AT nma CT] 47) := ⟨_, rfl⟩
  obtain ⟨BT, hBT⟩ : ∃ BT, BT = w8.heap.size := ⟨_, rfl⟩
  have b9 : Below w8.heap.size w8 W9 := by rw [hW9]; go_grown
  have j0 : W9.cell? ⟨BT, 0, none⟩ = some (.int .i64 (m : Int)) := by rw [hW9, hBT]; go_cell
  have j1 : W9.cell? ⟨BT, 1, none⟩ = some (.int .i64 (a : Int)) := by rw [hW9, hBT]; go_cell
  have j2 : W9.cell? ⟨BT, 2, none⟩ = some (.slice AT nma CT) := by rw [hW9, hBT]; go_cell
  have B9 := B8.trans (b9.mono B8.size)
  have HG9 := Lib.hid (HGE.out W9 _ (hrt.below b9))
  have hg9 := hg9.below b9
  rw [← hW9, ← hBT]
  clear hW9 hBT b9 hrt HGE B8
  go_upto_region 12 with (go_at_call 43; refine HG9.out.mono ?_; rintro e w10 ⟨rfl, hb10⟩; have B10 := B9.trans (hb10.mono B9.size); have hg9 := hg9.below hb10)
  clear HG9 hb10 B9 j0 j1 j2
  have cv : ∀ x : Nat, (floatToFloatBits .f32 x .f64).isSome = true → ∀ W : World, (convert 32 29 (.float .f32 x)).run Try.prog W = .ok (.float .f64 (up64 x)) W := fun x hx W => run_convert_float_float (P := Try.prog) W 32 29 .f32 .f64 _ _ (by rw [Try.underlying32]; rfl) Try.underlying29 (up_runG _ hx)
  have V1 := cv _ f1
  have V2 := cv _ f2
  have HCV := Lib.hid cv
  unfold w002 at f3 f4
  clear cv f1 f2
  generalize up64 lw = ul at *
  generalize up64 bw = ub at *
  have hlm : ((m : Int) == (m : Int)) = true := by simp
  go_upto_region 14 with fail
  clear V1 V2 f3 f4 hmo hlm
  obtain ⟨gb, go, gc, ge, _, _, gcell⟩ := sl_nats hg9 hgl (by omega)
  simp only [Value.slice.injEq] at ge
  obtain ⟨rfl, -, rfl⟩ := ge
  have HGC := Lib.hid gcell
  clear gcell hg9
  go_upto_region 16 with fail
  go_loopw [20, 112] (fun s q W => ∃ t : Nat, t ≤ a ∧ q = .int .i64 (t : Int) ∧ s = .float .f32 (mostS rs t) ∧ w10 = W) (fun _ q _ => a - (intOf q).toNat)
  case atStart => exact ⟨0, Nat.zero_le _, rfl, rfl, rfl⟩
  case round =>
    obtain ⟨t, ht, rfl, rfl, rfl⟩ := hrel
    by_cases hlt : t < a
    · have cr := HRC.out w10 B10 t hlt
      have HMX := Lib.hid (run_max32 (HMO.out t ht).1 (HRE.out t hlt))
      have hmx := HMX.out
      have HMS : Hid (mostS rs (t + 1) = max (mostS rs t) (rs[t]?.getD 0)) := Lib.hid rfl
      generalize mostS rs t = mt at *
      generalize rs[t]?.getD 0 = rt at *
      go_wp2
      go_roundw
      case rel => exact ⟨t + 1, by omega, by go_num, by rw [HMS.out], by first | rfl | trivial⟩
      case measure => simp [intOf]; omega
    · obtain rfl : a = t := by omega
      clear ht HMO
      go_upto_region 22 with fail
      go_loopw [22, 23] (fun s q W => ∃ k : Nat, k ≤ m ∧ q = .int .i64 (k : Int) ∧ s = .float .f64 (rT xs rs a m k) ∧ Below w10.heap.size w10 W) (fun _ q _ => m - (intOf q).toNat)
      case atStart => exact ⟨0, Nat.zero_le _, rfl, rfl, Below.refl _ _⟩
      case round =>
        obtain ⟨k, hk, rfl, rfl, hb⟩ := hrel
        have hbA := B10.trans (hb.mono B10.size)
        by_cases hkm : k < m
        · obtain ⟨g0, g1, g2⟩ := HKP.out wr hbA
          have HB1 := Lib.hid (HBK.out wr k hbA hkm)
          obtain ⟨r1, r2, r3, r4⟩ := (HRT.out k hk).2 hkm
          have HRTS : Hid (rT xs rs a m (k + 1) = fA .add .f64 (rT xs rs a m k) (fA .mul .f64 (up64 (rs[bO xs rs a m k]?.getD 0)) (up64 (xs[bO xs rs a m k * m + k]?.getD 0)))) := Lib.hid rfl
          have HBM1 := Lib.hid (fun i hi => HBM.out k i hkm hi)
          obtain ⟨q1, q2⟩ := HBS.out k hkm
          have BX := HBX.out k hkm
          have HSB := Lib.hid (fun t ht => (sB_ap BX (by omega) t ht).2)
          have hgvl := BX.len
          have hbl := HBL.out k
          have HGLk := Lib.hid (HGL.out k hkm)
          have V1 := HCV.out _ r1
          have V2 := HCV.out _ r2
          have hjl : bO xs rs a m k * m + k < nam := by
            have := row_le (m := m) hbl
            rw [Nat.add_mul, Nat.one_mul, HNAM.out] at this
            omega
          clear r1 r2 BX
          generalize givenOf (tzO xs rs a m) a k = gv at *
          generalize hRk : rT xs rs a m k = rk at *
          clear hRk
          generalize bO xs rs a m k = bk at *
          go_upto_region 25 with (go_at_call 44; refine HB1.out.mono ?_; rintro e w11 ⟨⟨A24, C24, rfl, hbk⟩, hb11⟩)
          have hb12 := hb.trans (hb11.mono hb.size)
          have hgk := HGC.out w11 hb12 k hkm
          rw [HGLk.out] at hgk
          obtain ⟨kb, ko, kc, ke, _, _, kcell⟩ := sl_cells hbk hgvl (by omega)
          simp only [Value.slice.injEq] at ke
          obtain ⟨rfl, -, rfl⟩ := ke
          have HKC := Lib.hid kcell
          have hn0 : decide ((bk : Int) < 0) = false := decide_eq_false (by omega)
          have hn1 : decide ((a : Int) ≤ (bk : Int)) = false := decide_eq_false (by omega)
          clear kcell hbk HB1 hb11 g0 g1 g2
          go_upto_region 30 with fail
          clear hgk hn0 hn1
          go_loopw [27, 157] (fun s q W => ∃ t : Nat, t ≤ a ∧ q = .int .i64 (t : Int) ∧ s = .float .f64 (sB gv t) ∧ Qu w11 W) (fun _ q _ => a - (intOf q).toNat)
          case atStart => exact ⟨0, Nat.zero_le _, rfl, rfl, Qu.refl _⟩
          case round =>
            obtain ⟨t, ht, rfl, rfl, hq⟩ := hrel
            by_cases hta : t < a
            · have k1 := HKC.out wr (Below.trans (Below.refl _ _) hq.keep) t hta
              have k2 := HKC.out wr (Below.trans (Below.refl _ _) hq.keep) bk hbl
              obtain ⟨s1, s2⟩ := HSB.out t ht hta
              have S1 := HCV.out _ s1
              have hbm := HBM1.out t hta
              have HSS : Hid (sB gv (t + 1) = fA .add .f64 (sB gv t) (up64 (gv[t]?.getD 0))) := Lib.hid rfl
              clear s1
              generalize sB gv t = st at *
              generalize gv[t]?.getD 0 = gt at *
              generalize gv[bk]?.getD 0 = gbk at *
              generalize up64 gt = ugt at *
              go_upto_region 33 with fail
              go_quiet (fail)
              go_wp2
              go_roundw
              case rel => exact ⟨t + 1, by omega, by go_num, by rw [HSS.out], hq.drewN _⟩
              case measure => simp [intOf]; omega
            · obtain rfl : a = t := by omega
              have hb13 := hb12.trans (hq.keep.mono hb12.size)
              have hbB := B10.trans (hb13.mono B10.size)
              obtain ⟨g0, g1, g2⟩ := HKP.out wr hbB
              have x1 := HRC.out wr hbB bk hbl
              have x2 := HXC.out wr hbB (bk * m + k) hjl
              have HQ1 := Lib.hid (fun W => b10Gap_any _ _ W q1)
              unfold w001 at q2
              obtain ⟨P, hP⟩ : ∃ P, P = bk * m := ⟨_, rfl⟩
              rw [← hP] at x2 r3 r4 V2 HRTS hjl
              have hPi : (bk : Int) * (m : Int) = (P : Int) := by rw [hP]; push_cast; rfl
              clear hP HQ1
              have HQ1 := Lib.hid (fun W => b10Gap_any _ _ W q1)
              clear q1
              generalize rs[bk]?.getD 0 = rb1 at *
              generalize xs[P + k]?.getD 0 = xb1 at *
              generalize up64 rb1 = ur at *
              generalize up64 xb1 = ux at *
              have hPk : (P : Int) + (k : Int) = ((P + k : Nat) : Int) := by omega
              have hPb : P + k ≤ 16 := by omega
              generalize P + k = j at *
              generalize sB gv a = sa at *
              generalize gpW sa 4607182418800017408 = gp1 at *
              go_upto_region 38 with (go_at_call 23; refine (HQ1.out _).mono ?_; rintro e w' ⟨rfl, rfl⟩)
              go_quiet (fail)
              go_wp2
              go_roundw
              case rel => exact ⟨k + 1, by omega, by go_num, by rw [HRTS.out], below_drewN hb13 _⟩
              case measure => simp [intOf]; omega
        · obtain rfl : m = k := by omega
          have hend := hbw3.trans (hbA.mono hbw3.size)
          obtain ⟨z1, z2, z3, z4, z5, z6, z7, z8⟩ := HLAST.out
          have V1 := HCV.out _ z1
          have V2 := HCV.out _ z2
          have HQ := Lib.hid (fun W => b10Gap_any _ _ W z7)
          unfold w001 at z4 z5 z8
          clear z1 z2 z7 HLAST HBK HRT HBX HBS HBM HBL HGL
          generalize up64 mw = um at *
          generalize up64 (mostS rs a) = uo at *
          generalize rT xs rs a m m = rm at *
          go_wp2_with (go_at_call 23; refine (HQ.out _).mono ?_; rintro e w' ⟨rfl, rfl⟩)
          go_ret
          exact ⟨rfl, hend⟩

set_option maxRecDepth 100000 in
theorem law_FnGuessed (w : World) (a1 : Option Addr) (c1 : Nat) (code : List UInt8) (_ : code.length ≤ c1 ∧ c1 ≤ 9223372036854775807) (s1 : SlR w (.slice a1 code.length c1) (byv code)) (_ : ∀ x ∈ code, True) (a2 : Option Addr) (c2 : Nat) (more : List UInt8) (_ : more.length ≤ c2 ∧ c2 ≤ 9223372036854775807) (s2 : SlR w (.slice a2 more.length c2) (byv more)) (_ : ∀ x ∈ more, True) :
    Calls Try.prog 6 #[.slice a1 code.length c1, .slice a2 more.length c2] w fun e w' => e = .returned (.bool true) ∧ Below w.heap.size w w' := by
  by_cases h : code.length ≤ 1048576 ∧ more.length ≤ 1048576
  · exact guessed_walk w a1 a2 c1 c2 code more _ _ rfl rfl h.1 h.2 s1 s2
  · have HL := Lib.hid (b10Long_any _ _ code more w s1 s2)
    rw [show (decide (1048576 < code.length) || decide (1048576 < more.length)) = true by simp; omega] at HL
    clear s1 s2 h
    generalize code.length = n1 at *
    generalize more.length = n2 at *
    go_enter Try.func6, Try.ntmps6
    go_wp2_with (go_at_call 19; refine HL.out.mono ?_; rintro e w' ⟨rfl, rfl⟩)
    go_ret
    exact ⟨rfl, Below.refl _ _⟩

end Go.Proofs.Ytmocfnpbofeiiaa
