/- The law FnTables: the whole walk. -/
import Derived.Test.YtmocfnpbofeiiaaMTtC
import Derived.Test.YtmocfnpbofeiiaaMRdb
import Derived.Deep.Cut
import Derived.Deep.CutBlock
import Derived.BigQuiet
namespace Go.Proofs.Ytmocfnpbofeiiaa
set_option linter.unusedSimpArgs false
set_option linter.unusedVariables false
open Go.RowKit
open Ieee

set_option maxRecDepth 100000 in
set_option maxHeartbeats 16000000 in
theorem tables_walk (w : World) (a1 a2 : Option Addr) (c1 c2 : Nat) (code more : List UInt8) (nc nm : Nat) (hnc : code.length = nc) (hnm : more.length = nm) (hc : nc ≤ 48) (hm : nm ≤ 48) (s1 : SlR w (.slice a1 nc c1) (byv code)) (s2 : SlR w (.slice a2 nm c2) (byv more)) :
    Calls Try.prog 5 #[.slice a1 nc c1, .slice a2 nm c2] w fun e w' => e = .returned (.bool true) ∧ Below w.heap.size w w' := by
  have HL := Lib.hid (r8Long_any _ _ code more w s1 s2)
  rw [hnc, hnm, show (decide (48 < nc) || decide (48 < nm)) = false by simp; omega] at HL
  have HAT : Hid (∀ (k n : Nat) (W : World), Below w.heap.size w W → k ≤ 1000 → n ≤ 1000 → Calls Try.prog 9 #[.slice a2 nm c2, .int .i64 (k : Int), .int .i64 (n : Int)] W fun e w' => e = .returned (.int .i64 ((at8 more k n : Nat) : Int)) ∧ W = w') := Lib.hid fun k n W hW h1 h2 => r8At_any _ more k n W (by omega) (by omega) h2 (s2.below hW)
  have HTA := Lib.hid (R8Table_any w _ code (by omega) s1)
  have HRA : Hid (∀ (W : World) (n : Nat), Below w.heap.size w W → 1 ≤ n → n ≤ 16 → Calls Try.prog 10 #[.slice a1 nc c1, .int .i64 (n : Int)] W fun e w' => (∃ (cs : List Nat) (v : Value), Cn cs n ∧ e = .returned v ∧ SlR w' v ((rowK cs).map (Value.float .f32))) ∧ Below W.heap.size W w') := Lib.hid fun W n hW h1 h2 => by
    have hl6 : code.length ≤ 1048576 := by omega
    exact R8Row_any W _ code n hl6 h1 h2 (s1.below hW)
  have HRB : Hid (∀ (W : World) (n : Nat), Below w.heap.size w W → 1 ≤ n → n ≤ 16 → Calls Try.prog 10 #[.slice a2 nm c2, .int .i64 (n : Int)] W fun e w' => (∃ (cs : List Nat) (v : Value), Cn cs n ∧ e = .returned v ∧ SlR w' v ((rowK cs).map (Value.float .f32))) ∧ Below W.heap.size W w') := Lib.hid fun W n hW h1 h2 => by
    have hl6 : more.length ≤ 1048576 := by omega
    exact R8Row_any W _ more n hl6 h1 h2 (s2.below hW)
  have HLT : Hid (∀ k n : Nat, 1 ≤ n → at8 more k n < n) := Lib.hid fun k n h => at8_lt more k n h
  clear s1 s2 hnc hnm
  go_enter Try.func5, Try.ntmps5
  go_upto_region 3 with (go_at_call 8; refine HL.out.mono ?_; rintro e w' ⟨rfl, rfl⟩)
  go_upto_region 4 with (go_at_call 26; refine HTA.out.mono ?_; rintro e w1 ⟨⟨cs, r, c, u, r1, r4, k1, k4, hcn, rfl, hsl⟩, hb1⟩; obtain ⟨ua, un, uc, rfl, -⟩ := SlR.opened 0 hsl)
  clear HL HTA
  obtain ⟨W2, hW2⟩ : ∃ W2, W2 = w1.alloc (.cells #[.int .i64 (r : Int), .int .i64 (c : Int), .slice ua un uc] 47) := ⟨_, rfl⟩
  obtain ⟨B5, hB5⟩ : ∃ B5, B5 = w1.heap.size := ⟨_, rfl⟩
  have hb2 : Below w.heap.size w W2 := by rw [hW2]; exact hb1.alloc hb1.size _
  have g0 : W2.cell? ⟨B5, 0, none⟩ = some (.int .i64 (r : Int)) := by rw [hW2, hB5]; go_cell
  have g1 : W2.cell? ⟨B5, 1, none⟩ = some (.int .i64 (c : Int)) := by rw [hW2, hB5]; go_cell
  have g2 : W2.cell? ⟨B5, 2, none⟩ = some (.slice ua un uc) := by rw [hW2, hB5]; go_cell
  have hsl2 : SlR W2 (.slice ua un uc) ((rowK cs).map (Value.float .f32)) := by rw [hW2]; exact hsl.below (by go_grown)
  rw [← hW2, ← hB5]
  clear hW2 hB5 hsl hb1
  have n16 : r * c ≤ 16 := Nat.mul_le_mul r4 k4
  have HKP : Hid (∀ W, Below W2.heap.size W2 W → (W.cell? ⟨B5, 0, none⟩ = some (.int .i64 (r : Int)) ∧ W.cell? ⟨B5, 1, none⟩ = some (.int .i64 (c : Int)) ∧ W.cell? ⟨B5, 2, none⟩ = some (.slice ua un uc)) ∧ SlR W (.slice ua un uc) ((rowK cs).map (Value.float .f32))) := Lib.hid fun W hW => ⟨⟨cell_step g0 hW, cell_step g1 hW, cell_step g2 hW⟩, hsl2.below hW⟩
  have T := (hcn.rw1 (Nat.mul_pos r1 k1) n16).table (a := r) (m := c) r1 (by omega) k1 (by omega)
  have d0 : (0 : Rat) ≤ 1 / 8000000 := by decide +kernel
  have dd : (1 : Rat) / 8000000 ≤ 1 / 2000000 := by decide +kernel
  have de : (0 : Rat) ≤ 1 / 8000000 + 1 / 1000000 := by decide +kernel
  have P := T.parts d0 (by decide +kernel)
  have C := T.cols d0 dd
  have hV := T.valid d0 (by decide +kernel)
  have hV2 := T.turn.valid d0 (by decide +kernel)
  have hlt := T.flat.lt32
  have hlt2 := T.turn.flat.lt32
  have hlen := T.len
  have l6 : (rowK cs).length ≤ 1048576 := by omega
  have i64r : I64 (r : Int) := by unfold I64; omega
  have i64c : I64 (c : Int) := by unfold I64; omega
  have tl := turnOf_length (rowK cs) c r c
  have HRP : Hid (∀ W, Below W2.heap.size W2 W → Calls Try.prog 27 #[.agg #[.int .i64 (r : Int), .int .i64 (c : Int), .slice ua un uc]] W (RetSl W 32 r ((partsOf (rowK cs) c r).map (Value.float .f32)) (fun v => .tuple #[v, .bool true]))) := Lib.hid fun W hW => by
    have := impl_RowPart W r c i64r i64c _ _ (hsl2.below hW) hlt l6
    rw [outRow_yes hV (P.row de (by decide +kernel) (by omega))] at this
    simpa only [partsOf_length] using this
  have HCP : Hid (∀ W, Below W2.heap.size W2 W → Calls Try.prog 28 #[.agg #[.int .i64 (r : Int), .int .i64 (c : Int), .slice ua un uc]] W (RetSl W 32 c ((colsOf (rowK cs) c r).map (Value.float .f32)) (fun v => .tuple #[v, .bool true]))) := Lib.hid fun W hW => by
    have := impl_ColumnPart W r c i64r i64c _ _ (hsl2.below hW) hlt l6
    rw [outCol_yes hV (C.row de (by decide +kernel) (by omega))] at this
    simpa only [colsOf_length] using this
  have HTT : Hid (∀ W, Below W2.heap.size W2 W → Calls Try.prog 29 #[.agg #[.int .i64 (r : Int), .int .i64 (c : Int), .slice ua un uc]] W (RetSl W 32 (c * r) ((turnOf (rowK cs) c r c).map (Value.float .f32)) (fun v => .tuple #[.agg #[.int .i64 (c : Int), .int .i64 (r : Int), v], .bool true]))) := Lib.hid fun W hW => by
    have := impl_TurnTable W r c i64r i64c _ _ (hsl2.below hW) hlt l6
    rw [outTT_yes (by unfold ttOk; rw [Int.toNat_natCast, Int.toNat_natCast, hV, hV2]; rfl)] at this
    simpa only [turnOf_length] using this
  have HTB : Hid (∀ W u, SlR W u ((turnOf (rowK cs) c r c).map (Value.float .f32)) → Calls Try.prog 29 #[.agg #[.int .i64 (c : Int), .int .i64 (r : Int), u]] W (RetSl W 32 (r * c) ((rowK cs).map (Value.float .f32)) (fun v => .tuple #[.agg #[.int .i64 (r : Int), .int .i64 (c : Int), v], .bool true]))) := Lib.hid fun W u hW => by
    have hback := turn_back hlen k1
    have := impl_TurnTable W c r i64c i64r u _ hW hlt2 (by rw [tl, Nat.mul_comm]; omega)
    rw [outTT_yes (by unfold ttOk; rw [Int.toNat_natCast, Int.toNat_natCast, hV2, hback, hV]; rfl), hback] at this
    simpa only [hlen] using this
  obtain ⟨cw, hcw⟩ : ∃ cw, cw = cmS (rowK cs) r c (r * c) := ⟨_, rfl⟩
  obtain ⟨sw, hsw⟩ : ∃ sw, sw = cmS (turnOf (rowK cs) c r c) c r (c * r) := ⟨_, rfl⟩
  obtain ⟨aw, haw⟩ : ∃ aw, aw = entF (rowK cs) := ⟨_, rfl⟩
  obtain ⟨xw, hxw⟩ : ∃ xw, xw = entF (partsOf (rowK cs) c r) := ⟨_, rfl⟩
  obtain ⟨yw, hyw⟩ : ∃ yw, yw = entF (colsOf (rowK cs) c r) := ⟨_, rfl⟩
  obtain ⟨lw, hlw⟩ : ∃ lw, lw = geS (rowK cs) c r := ⟨_, rfl⟩
  have FA := Lib.hid (table_facts hcn r1 r4 k1 k4 hcw hsw haw hxw hyw hlw)
  have HTE : Hid (∀ W, Below W2.heap.size W2 W → Calls Try.prog 30 #[.agg #[.int .i64 (r : Int), .int .i64 (c : Int), .slice ua un uc]] W fun e w' => e = .returned (.tuple #[.float .f32 aw, .bool true]) ∧ Below W.heap.size W w') := Lib.hid fun W hW => by
    have := impl_TableEntropy W r c i64r i64c _ _ (hsl2.below hW) hlt l6
    obtain ⟨f1, f2⟩ := fin_ok (T.tAp d0 dd Rat.le_refl).1.1
    rw [te_yes hV, f1, f2, ← haw] at this
    exact this
  have HGE : Hid (∀ W, Below W2.heap.size W2 W → Calls Try.prog 31 #[.agg #[.int .i64 (r : Int), .int .i64 (c : Int), .slice ua un uc]] W fun e w' => e = .returned (.tuple #[.float .f32 lw, .bool true]) ∧ Below W.heap.size W w') := Lib.hid fun W hW => by
    rw [hlw]; exact ge_any T d0 dd W _ (hsl2.below hW)
  have HCM : Hid (∀ W, Below W2.heap.size W2 W → Calls Try.prog 32 #[.agg #[.int .i64 (r : Int), .int .i64 (c : Int), .slice ua un uc]] W fun e w' => e = .returned (.tuple #[.float .f32 cw, .bool true]) ∧ Below W.heap.size W w') := Lib.hid fun W hW => by
    rw [hcw]; exact cm_any T d0 dd W _ (hsl2.below hW)
  have HCS : Hid (∀ W u, SlR W u ((turnOf (rowK cs) c r c).map (Value.float .f32)) → Calls Try.prog 32 #[.agg #[.int .i64 (c : Int), .int .i64 (r : Int), u]] W fun e w' => e = .returned (.tuple #[.float .f32 sw, .bool true]) ∧ Below W.heap.size W w') := Lib.hid fun W u hW => by
    rw [hsw]; exact cm_any T.turn d0 dd W u hW
  have HEX : Hid (∀ W u, SlR W u ((partsOf (rowK cs) c r).map (Value.float .f32)) → Calls Try.prog 33 #[u] W fun e w' => e = .returned (.tuple #[.float .f32 xw, .bool true]) ∧ Qu W w') := Lib.hid fun W u hW => by
    have := implEntropyOf_any u _ W hW P.lt32
    obtain ⟨f1, f2⟩ := fin_ok (P.ent de (by decide +kernel) Rat.le_refl).2.1.1
    rw [eo_yes (P.row de (by decide +kernel) (by omega)), f1, f2, ← hxw] at this
    exact this
  have HEY : Hid (∀ W u, SlR W u ((colsOf (rowK cs) c r).map (Value.float .f32)) → Calls Try.prog 33 #[u] W fun e w' => e = .returned (.tuple #[.float .f32 yw, .bool true]) ∧ Qu W w') := Lib.hid fun W u hW => by
    have := implEntropyOf_any u _ W hW C.lt32
    obtain ⟨f1, f2⟩ := fin_ok (C.ent de (by decide +kernel) Rat.le_refl).2.1.1
    rw [eo_yes (C.row de (by decide +kernel) (by omega)), f1, f2, ← hyw] at this
    exact this
  have HVT : Hid (∀ W, Below W2.heap.size W2 W → Calls Try.prog 34 #[.agg #[.int .i64 (r : Int), .int .i64 (c : Int), .slice ua un uc]] W fun e w' => e = .returned (.bool true) ∧ Below W.heap.size W w') := Lib.hid fun W hW => by
    have := implValidTable_any r c _ _ W (hsl2.below hW) hlt
    rwa [hV] at this
  have HST : Hid (∀ W u, Below W2.heap.size W2 W → SlR W u ((rowK cs).map (Value.float .f32)) → Calls Try.prog 35 #[.agg #[.int .i64 (r : Int), .int .i64 (c : Int), u], .agg #[.int .i64 (r : Int), .int .i64 (c : Int), .slice ua un uc]] W fun e w' => e = .returned (.bool true) ∧ Below W.heap.size W w') := Lib.hid fun W u hW hu => SameTable_any r c _ u _ W hu (hsl2.below hW) hlt
  have HGV : Hid (∀ (W : World) (i : Nat), Below W2.heap.size W2 W → i < r → Calls Try.prog 36 #[.agg #[.int .i64 (r : Int), .int .i64 (c : Int), .slice ua un uc], .int .i64 (i : Int)] W (RetSl W 32 (out_GivenRow (r : Int) (c : Int) (rowK cs) (i : Int)).1.length ((out_GivenRow (r : Int) (c : Int) (rowK cs) (i : Int)).1.map (Value.float .f32)) (fun v => .tuple #[v, .bool (out_GivenRow (r : Int) (c : Int) (rowK cs) (i : Int)).2]))) := Lib.hid fun W i hW hi => impl_GivenRow W r c i64r i64c _ _ (hsl2.below hW) hlt l6 (i : Int) (by unfold I64; omega)
  have HGF := Lib.hid (fun i hi => given_facts (i := i) hcn r1 r4 k1 k4 hi)
  have HPL := Lib.hid (partsOf_length (rowK cs) c r)
  have HLN := Lib.hid hlen
  have HPC := Lib.hid (colsOf_length (rowK cs) c r)
  have hb2s := hb2.size
  clear T P C hV hV2 hlt hlt2 l6 i64r i64c tl hcw hsw haw hxw hyw hlw hsl2 hcn d0 dd de
  have B2 := Below.refl W2.heap.size W2
  go_upto_region 5 with (go_at_call 27; refine (HRP.out _ B2).mono ?_; rintro e w3 ⟨A3, C3, rfl, ho3, hb3⟩; have B3 := B2.trans (hb3.mono B2.size); obtain ⟨⟨g0, g1, g2⟩, -⟩ := HKP.out _ B3)
  go_upto_region 6 with (go_at_call 28; refine (HCP.out _ B3).mono ?_; rintro e w4 ⟨A4, C4, rfl, ho4, hb4⟩; have B4 := B3.trans (hb4.mono B3.size); obtain ⟨⟨g0, g1, g2⟩, -⟩ := HKP.out _ B4)
  go_upto_region 7 with (go_at_call 29; refine (HTT.out _ B4).mono ?_; rintro e w5 ⟨A5, C5, rfl, ho5, hb5⟩; have B5' := B4.trans (hb5.mono B4.size))
  have hx3 := (SlR.own ho3).below hb4 |>.below hb5
  have hx4 := (SlR.own ho4).below hb5
  have hx5 := SlR.own ho5
  clear B3 B4 ho3 ho4 ho5 hb3 hb4 hb5 HRP HCP HTT
  obtain ⟨W6, hW6⟩ : ∃ W6, W6 = w5.alloc (.cells #[.int .i64 (c : Int), .int .i64 (r : Int), .slice A5 (c * r) C5] 47) := ⟨_, rfl⟩
  obtain ⟨B10, hB10⟩ : ∃ B10, B10 = w5.heap.size := ⟨_, rfl⟩
  have b6 : Below w5.heap.size w5 W6 := by rw [hW6]; go_grown
  have B6 : Below W2.heap.size W2 W6 := B5'.trans (b6.mono B5'.size)
  have q0 : W6.cell? ⟨B10, 0, none⟩ = some (.int .i64 (c : Int)) := by rw [hW6, hB10]; go_cell
  have q1 : W6.cell? ⟨B10, 1, none⟩ = some (.int .i64 (r : Int)) := by rw [hW6, hB10]; go_cell
  have q2 : W6.cell? ⟨B10, 2, none⟩ = some (.slice A5 (c * r) C5) := by rw [hW6, hB10]; go_cell
  have y3 := hx3.below b6
  have y4 := hx4.below b6
  have y5 := hx5.below b6
  rw [← hW6, ← hB10]
  clear hW6 hB10 b6 B5' hx3 hx4 hx5 g0 g1 g2
  have HKQ : Hid (∀ W, Below W6.heap.size W6 W → ((W.cell? ⟨B5, 0, none⟩ = some (.int .i64 (r : Int)) ∧ W.cell? ⟨B5, 1, none⟩ = some (.int .i64 (c : Int)) ∧ W.cell? ⟨B5, 2, none⟩ = some (.slice ua un uc)) ∧ (W.cell? ⟨B10, 0, none⟩ = some (.int .i64 (c : Int)) ∧ W.cell? ⟨B10, 1, none⟩ = some (.int .i64 (r : Int)) ∧ W.cell? ⟨B10, 2, none⟩ = some (.slice A5 (c * r) C5))) ∧ SlR W (.slice A3 r C3) ((partsOf (rowK cs) c r).map (Value.float .f32)) ∧ SlR W (.slice A4 c C4) ((colsOf (rowK cs) c r).map (Value.float .f32)) ∧ SlR W (.slice A5 (c * r) C5) ((turnOf (rowK cs) c r c).map (Value.float .f32)) ∧ SlR W (.slice ua un uc) ((rowK cs).map (Value.float .f32)) ∧ Below W2.heap.size W2 W) := Lib.hid fun W hW => ⟨⟨(HKP.out W (B6.trans (hW.mono B6.size))).1, cell_step q0 hW, cell_step q1 hW, cell_step q2 hW⟩, y3.below hW, y4.below hW, y5.below hW, (HKP.out W (B6.trans (hW.mono B6.size))).2, B6.trans (hW.mono B6.size)⟩
  have HTB6 := Lib.hid (HTB.out W6 _ y5)
  clear y3 y4 y5 B6 HTB
  have b6 := Below.refl W6.heap.size W6
  have qq := (HKQ.out W6 b6).1
  obtain ⟨⟨g0, g1, g2⟩, q0, q1, q2⟩ := qq
  go_upto_region 8 with (go_at_call 29; refine HTB6.out.mono ?_; rintro e w7 ⟨A7, C7, rfl, ho7, hb7⟩)
  clear HTB6 g0 g1 g2 q0 q1 q2
  obtain ⟨W8, hW8⟩ : ∃ W8, W8 = w7.alloc (.cells #[.int .i64 (r : Int), .int .i64 (c : Int), .slice A7 (r * c) C7] 47) := ⟨_, rfl⟩
  obtain ⟨B12, hB12⟩ : ∃ B12, B12 = w7.heap.size := ⟨_, rfl⟩
  have b8 : Below w7.heap.size w7 W8 := by rw [hW8]; go_grown
  have B8 : Below W6.heap.size W6 W8 := hb7.trans (b8.mono hb7.size)
  have p0 : W8.cell? ⟨B12, 0, none⟩ = some (.int .i64 (r : Int)) := by rw [hW8, hB12]; go_cell
  have p1 : W8.cell? ⟨B12, 1, none⟩ = some (.int .i64 (c : Int)) := by rw [hW8, hB12]; go_cell
  have p2 : W8.cell? ⟨B12, 2, none⟩ = some (.slice A7 (r * c) C7) := by rw [hW8, hB12]; go_cell
  have y7 := (SlR.own ho7).below b8
  rw [← hW8, ← hB12]
  clear hW8 hB12 b8 ho7 hb7 b6
  have HK : Hid (∀ W, Below W8.heap.size W8 W → ((W.cell? ⟨B5, 0, none⟩ = some (.int .i64 (r : Int)) ∧ W.cell? ⟨B5, 1, none⟩ = some (.int .i64 (c : Int)) ∧ W.cell? ⟨B5, 2, none⟩ = some (.slice ua un uc)) ∧ (W.cell? ⟨B10, 0, none⟩ = some (.int .i64 (c : Int)) ∧ W.cell? ⟨B10, 1, none⟩ = some (.int .i64 (r : Int)) ∧ W.cell? ⟨B10, 2, none⟩ = some (.slice A5 (c * r) C5)) ∧ (W.cell? ⟨B12, 0, none⟩ = some (.int .i64 (r : Int)) ∧ W.cell? ⟨B12, 1, none⟩ = some (.int .i64 (c : Int)) ∧ W.cell? ⟨B12, 2, none⟩ = some (.slice A7 (r * c) C7))) ∧ SlR W (.slice A3 r C3) ((partsOf (rowK cs) c r).map (Value.float .f32)) ∧ SlR W (.slice A4 c C4) ((colsOf (rowK cs) c r).map (Value.float .f32)) ∧ SlR W (.slice A5 (c * r) C5) ((turnOf (rowK cs) c r c).map (Value.float .f32)) ∧ SlR W (.slice A7 (r * c) C7) ((rowK cs).map (Value.float .f32)) ∧ SlR W (.slice ua un uc) ((rowK cs).map (Value.float .f32)) ∧ Below W2.heap.size W2 W) := Lib.hid fun W hW => by
    obtain ⟨⟨h1, h2⟩, h3, h4, h5, h7, h6⟩ := HKQ.out W (B8.trans (hW.mono B8.size))
    exact ⟨⟨h1, h2, cell_step p0 hW, cell_step p1 hW, cell_step p2 hW⟩, h3, h4, h5, y7.below hW, h7, h6⟩
  clear HKQ HKP p0 p1 p2 y7 B8 B2
  have hsum : c * r = r * c := Nat.mul_comm _ _
  clear hsum
  generalize c * r = nt at *
  generalize hnn : r * c = ns at *
  have HNS := Lib.hid hnn
  clear hnn
  have b0 := Below.refl W8.heap.size W8
  obtain ⟨⟨⟨g0, g1, g2⟩, -⟩, -, -, -, -, -, z0⟩ := HK.out _ b0
  go_upto_region 9 with (go_at_call 30; refine (HTE.out _ z0).mono ?_; rintro e w9 ⟨rfl, hb9⟩; have b9 := b0.trans (hb9.mono b0.size); obtain ⟨⟨⟨g0, g1, g2⟩, -⟩, -, -, -, -, -, z9⟩ := HK.out _ b9)
  clear hb9 b0 z0
  go_upto_region 10 with (go_at_call 31; refine (HGE.out _ z9).mono ?_; rintro e w10 ⟨rfl, hb10⟩; have b10 := b9.trans (hb10.mono b9.size); obtain ⟨⟨⟨g0, g1, g2⟩, -⟩, -, -, -, -, -, z10⟩ := HK.out _ b10)
  clear hb10 b9 z9
  go_upto_region 11 with (go_at_call 32; refine (HCM.out _ z10).mono ?_; rintro e w11 ⟨rfl, hb11⟩; have b11 := b10.trans (hb11.mono b10.size); obtain ⟨⟨⟨g0, g1, g2⟩, ⟨q0, q1, q2⟩, -⟩, y3, y4, y5, y7, y8, z11⟩ := HK.out _ b11)
  clear hb11 b10 z10
  go_upto_region 12 with (go_at_call 32; refine (HCS.out _ _ y5).mono ?_; rintro e w12 ⟨rfl, hb12⟩; have b12 := b11.trans (hb12.mono b11.size); obtain ⟨-, y3, y4, y5, y7, y8, z12⟩ := HK.out _ b12)
  clear hb12 b11 z11
  go_upto_region 13 with (go_at_call 33; refine (HEX.out _ _ y3).mono ?_; rintro e w13 ⟨rfl, hq13⟩; have b13 := b12.trans (hq13.keep.mono b12.size); obtain ⟨-, y3, y4, y5, y7, y8, z13⟩ := HK.out _ b13)
  clear hq13 b12 z12
  go_upto_region 14 with (go_at_call 33; refine (HEY.out _ _ y4).mono ?_; rintro e w14 ⟨rfl, hq14⟩; have b14 := b13.trans (hq14.keep.mono b13.size); obtain ⟨⟨⟨g0, g1, g2⟩, -, p0, p1, p2⟩, y3, y4, y5, y7, y8, z14⟩ := HK.out _ b14)
  clear hq14 b13 z13 HTE HGE HCM HCS HEX HEY
  obtain ⟨⟨⟨v1, v2, v3⟩, v4, v5, v6⟩, f1, ⟨ga, f2, G1⟩, ⟨f3, gb, f4, G2⟩, ⟨f5, f6, gc, f7, G3⟩, ⟨f8, f9⟩, f10⟩ := FA.out
  have cv : ∀ x : Nat, (floatToFloatBits .f32 x .f64).isSome = true → ∀ W : World, (convert 32 29 (.float .f32 x)).run Try.prog W = .ok (.float .f64 (up64 x)) W := fun x hx W => run_convert_float_float (P := Try.prog) W 32 29 .f32 .f64 _ _ (by rw [Try.underlying32]; rfl) Try.underlying29 (up_runG _ hx)
  have V1 := cv _ v1
  have V2 := cv _ v2
  have V3 := cv _ v3
  have V4 := cv _ v4
  have V5 := cv _ v5
  have V6 := cv _ v6
  unfold w001 at f2 f8 f9
  unfold w002 at f4 f7
  unfold n001 at f1 f10
  have HG1 := Lib.hid G1
  have HG2 := Lib.hid G2
  have HG3 := Lib.hid G3
  clear FA v1 v2 v3 v4 v5 v6 cv G1 G2 G3
  generalize up64 cw = uc1 at *
  generalize up64 sw = us1 at *
  generalize up64 aw = ua1 at *
  generalize up64 xw = ux1 at *
  generalize up64 yw = uy1 at *
  generalize up64 lw = ul1 at *
  go_upto_region 16 with (first
    | (go_at_call 35; refine (HST.out _ _ z15 y7).mono ?_; rintro e w16 ⟨rfl, hb16⟩; have b16 := b15.trans (hb16.mono b15.size); obtain ⟨⟨⟨g0, g1, g2⟩, -⟩, y3, y4, y5, y7, y8, z16⟩ := HK.out _ b16)
    | (go_at_call 34; refine (HVT.out _ z14).mono ?_; rintro e w15 ⟨rfl, hb15⟩; have b15 := b14.trans (hb15.mono b14.size); obtain ⟨⟨⟨g0, g1, g2⟩, -, p0, p1, p2⟩, y3, y4, y5, y7, y8, z15⟩ := HK.out _ b15)
    | (go_at_call 14; first
        | (with_reducible refine (HG1.out _).mono ?_; rintro e w' ⟨rfl, rfl⟩)
        | (with_reducible refine (HG2.out _).mono ?_; rintro e w' ⟨rfl, rfl⟩)
        | (with_reducible refine (HG3.out _).mono ?_; rintro e w' ⟨rfl, rfl⟩)))
  clear HG1 HG2 HG3 f1 f2 f3 f4 f5 f6 f7 f8 f9 f10 V1 V2 V3 V4 V5 V6 HST HVT b14 z14 y4 y5 y7
  have hbw := hb2.trans (z16.mono hb2.size)
  have HA0 := Lib.hid (HAT.out 0 r w16 hbw (by omega) (by omega))
  have hi := HLT.out 0 r r1
  generalize at8 more 0 r = i at *
  go_upto_region 17 with (go_at_call 9; refine HA0.out.mono ?_; rintro e w' ⟨rfl, rfl⟩)
  clear HA0
  have HGV1 := Lib.hid (HGV.out w16 i z16 hi)
  obtain ⟨pb, po, pc, pe, _, _, pcell⟩ := sl_cells y3 HPL.out r1
  simp only [Value.slice.injEq] at pe
  obtain ⟨rfl, -, rfl⟩ := pe
  have pci := pcell w16 (Below.refl _ _) i hi
  have HPCL := Lib.hid (fun W hW => pcell W hW i hi)
  clear pcell
  rcases HGF.out i hi with ⟨h0, hout⟩ | ⟨hgt, hout, hgl, hfa⟩
  · rw [hout] at HGV1
    rw [h0] at pci
    clear hout h0 HGV HGF HPCL
    go_upto_region 18 with (go_at_call 36; refine HGV1.out.mono ?_; rintro e w17 ⟨A17, C17, rfl, -, hb17⟩; have pci := (hb17.cell (p := ⟨pb, po + i, none⟩) (World.block_lt_of_cell? _ _ pci)).trans pci; have b17 := b16.trans (hb17.mono b16.size); obtain ⟨⟨⟨g0, g1, g2⟩, -⟩, -⟩ := HK.out _ b17; have hbX := hbw.trans (hb17.mono hbw.size))
    clear HGV1 hb17
    go_upto_region 20 with fail
    clear pci g0 g1 g2
    go_upto_region 26 with fail
    clear HK b17
    have HA1 := Lib.hid (HAT.out 1 6 w17 hbX (by omega) (by omega))
    have HA2 := Lib.hid (fun W hW => HAT.out 2 6 W hW (by omega) (by omega))
    have t1l := HLT.out 1 6 (by omega)
    have t2l := HLT.out 2 6 (by omega)
    generalize at8 more 1 6 = t1 at *
    generalize at8 more 2 6 = t2 at *
    obtain ⟨x1, hx1⟩ : ∃ x, x = 1 + t1 := ⟨_, rfl⟩
    obtain ⟨x2, hx2⟩ : ∃ x, x = 1 + t2 := ⟨_, rfl⟩
    have e1 : (1 : Int) + (t1 : Int) = (x1 : Int) := by omega
    have e2 : (1 : Int) + (t2 : Int) = (x2 : Int) := by omega
    have l1 : 1 ≤ x1 ∧ x1 ≤ 6 := by omega
    have l2 : 1 ≤ x2 ∧ x2 ≤ 6 := by omega
    clear hx1 hx2 t1l t2l
    have HR1 := Lib.hid (fun W hW => HRA.out W x1 hW l1.1 (by omega))
    have HR2 := Lib.hid (fun W hW => HRB.out W x2 hW l2.1 (by omega))
    clear HAT HRA HRB HLT
    go_upto_region 27 with (first
      | (go_at_call 10; refine (HR1.out _ hbX).mono ?_; rintro e wa ⟨⟨asx, avx, hca, rfl, hra⟩, hba⟩; have hbA := hbX.trans (hba.mono hbX.size))
      | (go_at_call 9; refine HA1.out.mono ?_; rintro e w' ⟨rfl, rfl⟩))
    go_upto_region 28 with (first
      | (go_at_call 10; refine (HR2.out _ hbA).mono ?_; rintro e wb ⟨⟨bsx, bvx, hcb, rfl, hrb⟩, hbb⟩; have hbB := hbA.trans (hbb.mono hbA.size))
      | (go_at_call 9; refine (HA2.out _ hbA).mono ?_; rintro e w' ⟨rfl, rfl⟩))
    have HJ := Lib.hid (JoinRows_any asx bsx x1 x2 hca hcb l1.1 (by omega) l2.1 (by omega) _ avx bvx (hra.below hbb) hrb)
    have TJ := hca.join hcb l1.1 (by omega) l2.1 (by omega)
    have HCJ : Hid (∀ W u, SlR W u ((kOf (rowK asx) (rowK bsx) x2 x1).map (Value.float .f32)) → Calls Try.prog 32 #[.agg #[.int .i64 (x1 : Int), .int .i64 (x2 : Int), u]] W fun e w' => e = .returned (.tuple #[.float .f32 (cmS (kOf (rowK asx) (rowK bsx) x2 x1) x1 x2 (x1 * x2)), .bool true]) ∧ Below W.heap.size W w') := Lib.hid fun W u hW => cm_any TJ (by decide +kernel) (by decide +kernel) W u hW
    obtain ⟨af1, ga2, af2, af3⟩ := alone_facts hca hcb l1.1 l1.2 l2.1 l2.2
    have cvj := fun W : World => run_convert_float_float (P := Try.prog) W 32 29 .f32 .f64 _ _ (by rw [Try.underlying32]; rfl) Try.underlying29 (up_runG _ af1)
    have HAG := Lib.hid af3
    unfold w002 at af2
    clear af1 af3 TJ hca hcb hra hrb hba hbb HR1 HR2 HA1 HA2 e1 e2
    generalize cmS (kOf (rowK asx) (rowK bsx) x2 x1) x1 x2 (x1 * x2) = jw at *
    generalize up64 jw = uj at *
    go_upto_region 29 with (go_at_call 37; refine HJ.out.mono ?_; rintro e wc ⟨⟨tv, rfl, htv⟩, hbc⟩; have hbC := hbB.trans (hbc.mono hbB.size); obtain ⟨ta, tn, tc, rfl, -⟩ := SlR.opened 0 htv)
    obtain ⟨WJ, hWJ⟩ : ∃ WJ, WJ = wc.alloc (.cells #[.int .i64 (x1 : Int), .int .i64 (x2 : Int), .slice ta tn tc] 47) := ⟨_, rfl⟩
    obtain ⟨BJ, hBJ⟩ : ∃ BJ, BJ = wc.heap.size := ⟨_, rfl⟩
    have j0 : WJ.cell? ⟨BJ, 0, none⟩ = some (.int .i64 (x1 : Int)) := by rw [hWJ, hBJ]; go_cell
    have j1 : WJ.cell? ⟨BJ, 1, none⟩ = some (.int .i64 (x2 : Int)) := by rw [hWJ, hBJ]; go_cell
    have j2 : WJ.cell? ⟨BJ, 2, none⟩ = some (.slice ta tn tc) := by rw [hWJ, hBJ]; go_cell
    have hbJ : Below w.heap.size w WJ := by rw [hWJ]; exact hbC.alloc hbC.size _
    have hrJ : SlR WJ (.slice ta tn tc) ((kOf (rowK asx) (rowK bsx) x2 x1).map (Value.float .f32)) := by rw [hWJ]; exact htv.below (by go_grown)
    rw [← hWJ, ← hBJ]
    clear hWJ hBJ htv hbC hbB hbA hbc
    go_upto_region 30 with (go_at_call 32; refine (HCJ.out _ _ hrJ).mono ?_; rintro e wd ⟨rfl, hbd⟩; have hbD := hbJ.trans (hbd.mono hbJ.size))
    clear HCJ hrJ hbd j0 j1 j2
    go_wp2_with (go_at_call 14; refine (HAG.out _).mono ?_; rintro e w' ⟨rfl, rfl⟩)
    go_ret
    exact ⟨rfl, hbD⟩
  · rw [hout] at HGV1
    have HFA := Lib.hid hfa
    dsimp only at HGV1
    rw [hgl] at HGV1
    clear hout hfa HGV HGF
    generalize hpx : (partsOf (rowK cs) c r)[i]?.getD 0 = px at *
    have HGT := Lib.hid hgt
    clear hpx
    go_upto_region 18 with (go_at_call 36; refine HGV1.out.mono ?_; rintro e w17 ⟨A17, C17, rfl, ho17, hb17⟩; have pci := (hb17.cell (p := ⟨pb, po + i, none⟩) (World.block_lt_of_cell? _ _ pci)).trans pci; have b17 := b16.trans (hb17.mono b16.size); obtain ⟨⟨⟨g0, g1, g2⟩, -⟩, -⟩ := HK.out _ b17; have hbX := hbw.trans (hb17.mono hbw.size))
    clear HGV1
    have hgo := SlR.own ho17
    obtain ⟨gb, go, gc, ge, _, _, gcell⟩ := sl_cells hgo hgl k1
    simp only [Value.slice.injEq] at ge
    obtain ⟨rfl, -, rfl⟩ := ge
    have HGC := Lib.hid gcell
    have hy8 := (HK.out _ b17).2.2.2.2.2.1
    obtain ⟨tb, tof, tc, te, _, _, tcell⟩ := sl_cells hy8 HLN.out (by rw [← HNS.out]; exact Nat.mul_pos r1 k1)
    simp only [Value.slice.injEq] at te
    obtain ⟨rfl, rfl, rfl⟩ := te
    have HTC := Lib.hid tcell
    have hgt' := HGT.out
    clear gcell tcell hgo ho17 hy8
    have HI2 : Hid (∀ k, k < c → i * c + k < un) := Lib.hid fun k hk => by
      have hnn := HNS.out
      have := row_le (m := c) hi
      rw [Nat.add_mul, Nat.one_mul] at this
      omega
    obtain ⟨P, hP⟩ : ∃ P, P = i * c := ⟨_, rfl⟩
    rw [← hP] at HFA HI2
    have hPi : (i : Int) * (c : Int) = (P : Int) := by rw [hP]; push_cast; rfl
    clear hP
    go_upto_region 22 with fail
    clear pci hgt'
    go_loopw [29] (fun q W => ∃ k : Nat, k ≤ c ∧ q = .int .i64 (k : Int) ∧ Qu w17 W) (fun q _ => c - (intOf q).toNat)
    case atStart => exact ⟨0, Nat.zero_le _, rfl, Qu.refl _⟩
    case round =>
      clear g0 g1 g2
      obtain ⟨k, hk, rfl, hq⟩ := hrel
      obtain ⟨⟨⟨g0, g1, g2⟩, -⟩, -⟩ := HK.out wr (b17.trans (hq.keep.mono b17.size))
      by_cases hkc : k < c
      · obtain ⟨w1', w2', w3', w4', g, w5', w6'⟩ := HFA.out k hkc
        have hj := HI2.out k hkc
        have x1 := HGC.out wr (Below.trans (Below.refl _ _) hq.keep) k hkc
        have x2 := HPCL.out wr (hb17.trans (hq.keep.mono hb17.size))
        have x3 := HTC.out wr (Below.trans (Below.refl _ _) hq.keep) (P + k) hj
        have cv : ∀ x : Nat, (floatToFloatBits .f32 x .f64).isSome = true → ∀ W : World, (convert 32 29 (.float .f32 x)).run Try.prog W = .ok (.float .f64 (up64 x)) W := fun x hx W => run_convert_float_float (P := Try.prog) W 32 29 .f32 .f64 _ _ (by rw [Try.underlying32]; rfl) Try.underlying29 (up_runG _ hx)
        have V1 := cv _ w1'
        have V2 := cv _ w2'
        have V3 := cv _ w3'
        clear cv w1' w2' w3'
        unfold w001 at w5'
        have HG1 := Lib.hid w6'
        clear w6'
        generalize (givenOf (rowK cs) c i)[k]?.getD 0 = gx at *
        generalize (rowK cs)[P + k]?.getD 0 = tx at *
        generalize up64 gx = ug at *
        generalize up64 px = up at *
        generalize up64 tx = ut at *
        have hPk : (P : Int) + (k : Int) = ((P + k : Nat) : Int) := by omega
        have hPb : P + k ≤ 16 := by omega
        generalize P + k = j at *
        go_upto_region 24 with fail
        go_quiet ((go_at_call 14; exact Calls.quiet_of_same ((HG1.out _).mono (fun e w' ⟨h1, h2⟩ => ⟨h1, h2.symm⟩))))
        go_wp2
        go_roundw
        case rel => exact ⟨k + 1, by omega, by go_num, hq.drewN _⟩
        case measure => simp [intOf]; omega
      · have hbX' := hbX.trans (hq.keep.mono hbX.size)
        obtain rfl : k = c := by omega
        clear hbX
        rename Below w.heap.size w wr => hbX
        go_upto_region 26 with fail
        clear HK b17 hq g0 g1 g2 HFA HGC HTC HPCL HI2
        have HA1 := Lib.hid (HAT.out 1 6 wr hbX (by omega) (by omega))
        have HA2 := Lib.hid (fun W hW => HAT.out 2 6 W hW (by omega) (by omega))
        have t1l := HLT.out 1 6 (by omega)
        have t2l := HLT.out 2 6 (by omega)
        generalize at8 more 1 6 = t1 at *
        generalize at8 more 2 6 = t2 at *
        obtain ⟨x1, hx1⟩ : ∃ x, x = 1 + t1 := ⟨_, rfl⟩
        obtain ⟨x2, hx2⟩ : ∃ x, x = 1 + t2 := ⟨_, rfl⟩
        have e1 : (1 : Int) + (t1 : Int) = (x1 : Int) := by omega
        have e2 : (1 : Int) + (t2 : Int) = (x2 : Int) := by omega
        have l1 : 1 ≤ x1 ∧ x1 ≤ 6 := by omega
        have l2 : 1 ≤ x2 ∧ x2 ≤ 6 := by omega
        clear hx1 hx2 t1l t2l
        have HR1 := Lib.hid (fun W hW => HRA.out W x1 hW l1.1 (by omega))
        have HR2 := Lib.hid (fun W hW => HRB.out W x2 hW l2.1 (by omega))
        clear HAT HRA HRB HLT
        go_upto_region 27 with (first
          | (go_at_call 10; refine (HR1.out _ hbX).mono ?_; rintro e wa ⟨⟨asx, avx, hca, rfl, hra⟩, hba⟩; have hbA := hbX.trans (hba.mono hbX.size))
          | (go_at_call 9; refine HA1.out.mono ?_; rintro e w' ⟨rfl, rfl⟩))
        go_upto_region 28 with (first
          | (go_at_call 10; refine (HR2.out _ hbA).mono ?_; rintro e wb ⟨⟨bsx, bvx, hcb, rfl, hrb⟩, hbb⟩; have hbB := hbA.trans (hbb.mono hbA.size))
          | (go_at_call 9; refine (HA2.out _ hbA).mono ?_; rintro e w' ⟨rfl, rfl⟩))
        have HJ := Lib.hid (JoinRows_any asx bsx x1 x2 hca hcb l1.1 (by omega) l2.1 (by omega) _ avx bvx (hra.below hbb) hrb)
        have TJ := hca.join hcb l1.1 (by omega) l2.1 (by omega)
        have HCJ : Hid (∀ W u, SlR W u ((kOf (rowK asx) (rowK bsx) x2 x1).map (Value.float .f32)) → Calls Try.prog 32 #[.agg #[.int .i64 (x1 : Int), .int .i64 (x2 : Int), u]] W fun e w' => e = .returned (.tuple #[.float .f32 (cmS (kOf (rowK asx) (rowK bsx) x2 x1) x1 x2 (x1 * x2)), .bool true]) ∧ Below W.heap.size W w') := Lib.hid fun W u hW => cm_any TJ (by decide +kernel) (by decide +kernel) W u hW
        obtain ⟨af1, ga2, af2, af3⟩ := alone_facts hca hcb l1.1 l1.2 l2.1 l2.2
        have cvj := fun W : World => run_convert_float_float (P := Try.prog) W 32 29 .f32 .f64 _ _ (by rw [Try.underlying32]; rfl) Try.underlying29 (up_runG _ af1)
        have HAG := Lib.hid af3
        unfold w002 at af2
        clear af1 af3 TJ hca hcb hra hrb hba hbb HR1 HR2 HA1 HA2 e1 e2
        generalize cmS (kOf (rowK asx) (rowK bsx) x2 x1) x1 x2 (x1 * x2) = jw at *
        generalize up64 jw = uj at *
        go_upto_region 29 with (go_at_call 37; refine HJ.out.mono ?_; rintro e wc ⟨⟨tv, rfl, htv⟩, hbc⟩; have hbC := hbB.trans (hbc.mono hbB.size); obtain ⟨ta, tn, tc, rfl, -⟩ := SlR.opened 0 htv)
        obtain ⟨WJ, hWJ⟩ : ∃ WJ, WJ = wc.alloc (.cells #[.int .i64 (x1 : Int), .int .i64 (x2 : Int), .slice ta tn tc] 47) := ⟨_, rfl⟩
        obtain ⟨BJ, hBJ⟩ : ∃ BJ, BJ = wc.heap.size := ⟨_, rfl⟩
        have j0 : WJ.cell? ⟨BJ, 0, none⟩ = some (.int .i64 (x1 : Int)) := by rw [hWJ, hBJ]; go_cell
        have j1 : WJ.cell? ⟨BJ, 1, none⟩ = some (.int .i64 (x2 : Int)) := by rw [hWJ, hBJ]; go_cell
        have j2 : WJ.cell? ⟨BJ, 2, none⟩ = some (.slice ta tn tc) := by rw [hWJ, hBJ]; go_cell
        have hbJ : Below w.heap.size w WJ := by rw [hWJ]; exact hbC.alloc hbC.size _
        have hrJ : SlR WJ (.slice ta tn tc) ((kOf (rowK asx) (rowK bsx) x2 x1).map (Value.float .f32)) := by rw [hWJ]; exact htv.below (by go_grown)
        rw [← hWJ, ← hBJ]
        clear hWJ hBJ htv hbC hbB hbA hbc
        go_upto_region 30 with (go_at_call 32; refine (HCJ.out _ _ hrJ).mono ?_; rintro e wd ⟨rfl, hbd⟩; have hbD := hbJ.trans (hbd.mono hbJ.size))
        clear HCJ hrJ hbd j0 j1 j2
        go_wp2_with (go_at_call 14; refine (HAG.out _).mono ?_; rintro e w' ⟨rfl, rfl⟩)
        go_ret
        exact ⟨rfl, hbD⟩

set_option maxRecDepth 100000 in
theorem law_FnTables (w : World) (a1 : Option Addr) (c1 : Nat) (code : List UInt8) (_ : code.length ≤ c1 ∧ c1 ≤ 9223372036854775807) (s1 : SlR w (.slice a1 code.length c1) (byv code)) (_ : ∀ x ∈ code, True) (a2 : Option Addr) (c2 : Nat) (more : List UInt8) (_ : more.length ≤ c2 ∧ c2 ≤ 9223372036854775807) (s2 : SlR w (.slice a2 more.length c2) (byv more)) (_ : ∀ x ∈ more, True) :
    Calls Try.prog 5 #[.slice a1 code.length c1, .slice a2 more.length c2] w fun e w' => e = .returned (.bool true) ∧ Below w.heap.size w w' := by
  by_cases h : code.length ≤ 48 ∧ more.length ≤ 48
  · exact tables_walk w a1 a2 c1 c2 code more _ _ rfl rfl h.1 h.2 s1 s2
  · have HL := Lib.hid (r8Long_any _ _ code more w s1 s2)
    rw [show (decide (48 < code.length) || decide (48 < more.length)) = true by simp; omega] at HL
    clear s1 s2 h
    generalize code.length = n1 at *
    generalize more.length = n2 at *
    go_enter Try.func5, Try.ntmps5
    go_wp2_with (go_at_call 8; refine HL.out.mono ?_; rintro e w' ⟨rfl, rfl⟩)
    go_ret
    exact ⟨rfl, Below.refl _ _⟩

end Go.Proofs.Ytmocfnpbofeiiaa
