/- The law FnEntropies: the whole walk. -/
import Derived.Test.YtmocfnpbofeiiaaMEnL
import Derived.Test.YtmocfnpbofeiiaaMR8C
import Derived.Test.YtmocfnpbofeiiaaMTtP
import Derived.Test.YtmocfnpbofeiiaaMRdb
import Derived.Deep.Cut
import Derived.Deep.CutBlock
import Derived.BigQuiet
namespace Go.Proofs.Ytmocfnpbofeiiaa
set_option linter.unusedSimpArgs false
set_option linter.unusedVariables false
open Go.RowKit
open Ieee

set_option maxRecDepth 100000 in
set_option maxHeartbeats 16000000 in
theorem entropies_walk (w : World) (a1 a2 : Option Addr) (c1 c2 : Nat) (code more : List UInt8) (nc nm : Nat) (hnc : code.length = nc) (hnm : more.length = nm) (hc : nc ≤ 48) (hm : nm ≤ 48) (s1 : SlR w (.slice a1 nc c1) (byv code)) (s2 : SlR w (.slice a2 nm c2) (byv more)) :
    Calls Try.prog 7 #[.slice a1 nc c1, .slice a2 nm c2] w fun e w' => e = .returned (.bool true) ∧ Below w.heap.size w w' := by
  have HL := Lib.hid (r8Long_any _ _ code more w s1 s2)
  rw [hnc, hnm, show (decide (48 < nc) || decide (48 < nm)) = false by simp; omega] at HL
  have HAT : Hid (∀ (k n : Nat) (W : World), Below w.heap.size w W → k ≤ 1000 → n ≤ 1000 → Calls Try.prog 9 #[.slice a2 nm c2, .int .i64 (k : Int), .int .i64 (n : Int)] W fun e w' => e = .returned (.int .i64 ((at8 more k n : Nat) : Int)) ∧ W = w') := Lib.hid fun k n W hW h1 h2 => r8At_any _ more k n W (by omega) (by omega) h2 (s2.below hW)
  have HRA : Hid (∀ (W : World) (n : Nat), Below w.heap.size w W → 1 ≤ n → n ≤ 16 → Calls Try.prog 10 #[.slice a1 nc c1, .int .i64 (n : Int)] W fun e w' => (∃ (cs : List Nat) (v : Value), Cn cs n ∧ e = .returned v ∧ SlR w' v ((rowK cs).map (Value.float .f32))) ∧ Below W.heap.size W w') := Lib.hid fun W n hW h1 h2 => by
    have hl6 : code.length ≤ 1048576 := by omega
    exact R8Row_any W _ code n hl6 h1 h2 (s1.below hW)
  have HRB : Hid (∀ (W : World) (n : Nat), Below w.heap.size w W → 1 ≤ n → n ≤ 16 → Calls Try.prog 10 #[.slice a2 nm c2, .int .i64 (n : Int)] W fun e w' => (∃ (cs : List Nat) (v : Value), Cn cs n ∧ e = .returned v ∧ SlR w' v ((rowK cs).map (Value.float .f32))) ∧ Below W.heap.size W w') := Lib.hid fun W n hW h1 h2 => by
    have hl6 : more.length ≤ 1048576 := by omega
    exact R8Row_any W _ more n hl6 h1 h2 (s2.below hW)
  have HCO : Hid (∀ (W : World) (n : Nat), Below w.heap.size w W → 1 ≤ n → n ≤ 16 → Calls Try.prog 16 #[.slice a1 nc c1, .int .i64 (n : Int)] W fun e w' => (∃ (cs : List Nat) (v : Value), Cn cs n ∧ e = .returned v ∧ SlR w' v (cnV cs)) ∧ Below W.heap.size W w') := Lib.hid fun W n hW h1 h2 => by
    have hl6 : code.length ≤ 1048576 := by omega
    exact R8Counts_any W _ code n hl6 h1 h2 (s1.below hW)
  have HA0 := Lib.hid (HAT.out 40 8 w (Below.refl _ _) (by omega) (by omega))
  have HA1 := Lib.hid (fun W hW => HAT.out 41 17 W hW (by omega) (by omega))
  have HA2 := Lib.hid (fun W hW => HAT.out 42 8 W hW (by omega) (by omega))
  have l0 := at8_lt more 40 8 (by omega)
  have k17 := at8_lt more 41 17 (by omega)
  have l2 := at8_lt more 42 8 (by omega)
  clear s1 s2 hnc hnm HAT
  generalize at8 more 40 8 = t0 at *
  generalize at8 more 41 17 = k at *
  generalize at8 more 42 8 = t2 at *
  obtain ⟨n, hn⟩ : ∃ n, n = 1 + t0 := ⟨_, rfl⟩
  have e0 : (1 : Int) + (t0 : Int) = (n : Int) := by omega
  have n1 : 1 ≤ n := by omega
  have n8 : n ≤ 8 := by omega
  have HRA1 := Lib.hid (HRA.out w n (Below.refl _ _) n1 (by omega))
  obtain ⟨wk, hwk⟩ : ∃ wk, wk = 1 + t2 := ⟨_, rfl⟩
  have HWK : Hid ((1 : Int) + (t2 : Int) = (wk : Int) ∧ wk ≤ 8) := Lib.hid (by omega)
  have HWE := Lib.hid hwk
  clear hn HRA l0 hwk
  go_enter Try.func7, Try.ntmps7
  go_upto_region 3 with (go_at_call 8; refine HL.out.mono ?_; rintro e w' ⟨rfl, rfl⟩)
  go_upto_region 4 with (go_at_call 9; refine HA0.out.mono ?_; rintro e w' ⟨rfl, rfl⟩)
  go_upto_region 5 with (go_at_call 10; refine HRA1.out.mono ?_; rintro e w1 ⟨⟨cs, v, hcn, rfl, hva⟩, hb1⟩; obtain ⟨aa, an, ac, rfl, hanl, -⟩ := SlR.opened 0 hva)
  obtain rfl : n = an := by rw [← hanl, rowK_len, hcn.len]
  have HRB1 := Lib.hid (HRB.out w1 n hb1 n1 (by omega))
  clear HL HA0 HRA1 e0 HRB
  go_upto_region 6 with (go_at_call 10; refine HRB1.out.mono ?_; rintro e w2 ⟨⟨ds, v, hdn, rfl, hvb⟩, hb2⟩; obtain ⟨ba, bn, bc, rfl, hbnl, -⟩ := SlR.opened 0 hvb)
  obtain rfl : n = bn := by rw [← hbnl, rowK_len, hdn.len]
  have hva := hva.below hb2
  have hbw2 := hb1.trans (hb2.mono hb1.size)
  have HA11 := Lib.hid (HA1.out w2 hbw2)
  have HW1 : Hid (fA .quo .f32 (floatOfInt .f32 (k : Int)) 1098907648 = shW k) := Lib.hid rfl
  have q1 : (floatBits .quo .f32 (floatOfInt .f32 (k : Int)) 1098907648).isSome = true := (sh_all k k17).1
  clear HRB1 hb1 hb2 HA1 hanl hbnl
  go_upto_region 7 with (go_at_call 9; refine HA11.out.mono ?_; rintro e w' ⟨rfl, rfl⟩)
  rw [HW1.out]
  clear HA11 q1 HW1
  have RA := hcn.rw1 n1 (by omega)
  have RB := hdn.rw1 n1 (by omega)
  have RM := mx_row hcn hdn n1 n8 k17
  have RE := ev_row n1 n8
  have TW := hcn.tq hdn n1 n8
  have RO := hcn.ro n1 n8
  have d8 : (0 : Rat) ≤ 1 / 8000000 := by decide +kernel
  have d9 : (1 : Rat) / 8000000 ≤ 1 / 500000 := by decide +kernel
  have d2 : (0 : Rat) ≤ 1 / 2000000 := by decide +kernel
  have d3 : (1 : Rat) / 2000000 ≤ 1 / 500000 := by decide +kernel
  have HEA : Hid (∀ W, Below w2.heap.size w2 W → Calls Try.prog 33 #[.slice aa n ac] W fun e w' => e = .returned (.tuple #[.float .f32 (entF (rowK cs)), .bool true]) ∧ Below W.heap.size W w') := Lib.hid fun W hW => entR_any RA d8 d9 n8 W _ (hva.below hW)
  have HEB : Hid (∀ W, Below w2.heap.size w2 W → Calls Try.prog 33 #[.slice ba n bc] W fun e w' => e = .returned (.tuple #[.float .f32 (entF (rowK ds)), .bool true]) ∧ Below W.heap.size W w') := Lib.hid fun W hW => entR_any RB d8 d9 n8 W _ (hvb.below hW)
  have HMX : Hid (∀ W, Below w2.heap.size w2 W → Calls Try.prog 45 #[.slice aa n ac, .slice ba n bc, .float .f32 (shW k)] W fun e w' => (∃ a c, e = .returned (.tuple #[.slice a n c, .bool true]) ∧ SlR w' (.slice a n c) ((mxS k (rowK cs) (rowK ds) n).map (Value.float .f32))) ∧ Below W.heap.size W w') := Lib.hid fun W hW => MixRows_any hcn hdn n1 n8 k17 W _ _ (hva.below hW) (hvb.below hW)
  have HEM : Hid (∀ W u, SlR W u ((mxS k (rowK cs) (rowK ds) n).map (Value.float .f32)) → Calls Try.prog 33 #[u] W fun e w' => e = .returned (.tuple #[.float .f32 (entF (mxS k (rowK cs) (rowK ds) n)), .bool true]) ∧ Below W.heap.size W w') := Lib.hid fun W u hu => entR_any RM d2 d3 n8 W u hu
  have HEV : Hid (∀ W, Calls Try.prog 46 #[.int .i64 (n : Int)] W fun e w' => (∃ a c, e = .returned (.tuple #[.slice a n c, .bool true]) ∧ SlR w' (.slice a n c) ((evS n).map (Value.float .f32))) ∧ Below W.heap.size W w') := Lib.hid fun W => EvenRow_any n1 n8 W
  have HEE : Hid (∀ W u, SlR W u ((evS n).map (Value.float .f32)) → Calls Try.prog 33 #[u] W fun e w' => e = .returned (.tuple #[.float .f32 (entF (evS n)), .bool true]) ∧ Below W.heap.size W w') := Lib.hid fun W u hu => entR_any RE d8 d9 n8 W u hu
  have HSP : Hid (∀ W, Below w2.heap.size w2 W → Calls Try.prog 47 #[.slice aa n ac, .slice ba n bc] W fun e w' => e = .returned (.tuple #[.float .f32 (spV (rowK cs) (rowK ds)), .bool true]) ∧ Below W.heap.size W w') := Lib.hid fun W hW => spR_any hcn hdn n1 n8 W _ _ (hva.below hW) (hvb.below hW)
  have HFA : Hid (∀ W, Below w2.heap.size w2 W → Calls Try.prog 48 #[.slice aa n ac, .slice ba n bc] W fun e w' => e = .returned (.tuple #[.float .f32 (faW (rowK cs) (rowK ds) n), .bool true]) ∧ Below W.heap.size W w') := Lib.hid fun W hW => (FarOfRows_any TW.t W _ _ (hva.below hW) (hvb.below hW)).mono fun e w' hq => ⟨hq.1, hq.2.keep⟩
  have HRF : Hid (∀ W, Below w2.heap.size w2 W → Calls Try.prog 49 #[.slice aa n ac, .slice ba n bc] W fun e w' => e = .returned (.tuple #[.float .f32 (rooW (rowK cs) (rowK ds) n), .bool true]) ∧ Below W.heap.size W w') := Lib.hid fun W hW => (RootFar_any TW W _ _ (hva.below hW) (hvb.below hW)).mono fun e w' hq => ⟨hq.1, hq.2.keep⟩
  have HIA : Hid (∀ W, Below w2.heap.size w2 W → Calls Try.prog 50 #[.slice aa n ac] W fun e w' => e = .returned (.bool true) ∧ Below W.heap.size W w') := Lib.hid fun W hW => isR_any RA d8 d9 n8 W _ (hva.below hW)
  have HIM : Hid (∀ W u, SlR W u ((mxS k (rowK cs) (rowK ds) n).map (Value.float .f32)) → Calls Try.prog 50 #[u] W fun e w' => e = .returned (.bool true) ∧ Below W.heap.size W w') := Lib.hid fun W u hu => isR_any RM d2 d3 n8 W u hu
  have HO1 : Hid (∀ W, Below w2.heap.size w2 W → Calls Try.prog 51 #[.slice aa n ac, .float .f32 1056964608] W fun e w' => e = .returned (.tuple #[.float .f32 (orW 1056964608 (rowK cs) n), .bool true]) ∧ Below W.heap.size W w') := Lib.hid fun W hW => (OrderEntropy_any RO od_half W _ (hva.below hW)).mono fun e w' hq => ⟨hq.1, hq.2.keep⟩
  have HO2 : Hid (∀ W, Below w2.heap.size w2 W → Calls Try.prog 51 #[.slice aa n ac, .float .f32 1073741824] W fun e w' => e = .returned (.tuple #[.float .f32 (orW 1073741824 (rowK cs) n), .bool true]) ∧ Below W.heap.size W w') := Lib.hid fun W hW => (OrderEntropy_any RO od_two W _ (hva.below hW)).mono fun e w' hq => ⟨hq.1, hq.2.keep⟩
  have HO3 : Hid (∀ W, Below w2.heap.size w2 W → Calls Try.prog 51 #[.slice aa n ac, .float .f32 0] W fun e w' => e = .returned (.tuple #[.float .f32 (orW 0 (rowK cs) n), .bool true]) ∧ Below W.heap.size W w') := Lib.hid fun W hW => (OrderEntropy_any RO od_zero W _ (hva.below hW)).mono fun e w' hq => ⟨hq.1, hq.2.keep⟩
  obtain ⟨h1, h8, -⟩ := hcn.held n1 n8
  obtain ⟨hs1, hs2⟩ := ev_quo (hcN (rowK cs) n) (by omega) h1
  have HSU : Hid (∀ W, Calls Try.prog 52 #[.float .f32 (fA .quo .f32 1065353216 (floatOfInt .f32 ((hcN (rowK cs) n : Nat) : Int)))] W fun e w' => e = .returned (.tuple #[.float .f32 (fA .sub .f32 0 (enB (qwC 1 (hcN (rowK cs) n)))), .bool true]) ∧ Below W.heap.size W w') := Lib.hid fun W => by
    rw [hs2]
    obtain ⟨p1, p2, p3, _, _⟩ := part_of h1 h8
    exact (SurpriseOf_any p1 p3 p2 W).mono fun e w' hq => ⟨hq.1, hq.2.1.keep⟩
  have HSS : Hid (∀ W, Below w2.heap.size w2 W → Calls Try.prog 47 #[.slice aa n ac, .slice aa n ac] W fun e w' => e = .returned (.tuple #[.float .f32 (spV (rowK cs) (rowK cs)), .bool true]) ∧ Below W.heap.size W w') := Lib.hid fun W hW => spR_any hcn hcn n1 n8 W _ _ (hva.below hW) (hva.below hW)
  have HFF : Hid (∀ W, Below w2.heap.size w2 W → Calls Try.prog 48 #[.slice aa n ac, .slice aa n ac] W fun e w' => e = .returned (.tuple #[.float .f32 0, .bool true]) ∧ Below W.heap.size W w') := Lib.hid fun W hW => ffR_any hcn n1 n8 W _ (hva.below hW)
  have HTI : Hid (∀ W u, Below w2.heap.size w2 W → SlR W u (zrV n) → Calls Try.prog 53 #[.slice aa n ac, u, .float .f32 1065353216] W fun e w' => (∃ a c, e = .returned (.tuple #[.slice a n c, .bool true]) ∧ SlR w' (.slice a n c) ((tlS (rowK cs) (tsS (rowK cs) n)).map (Value.float .f32))) ∧ Below W.heap.size W w') := Lib.hid fun W u hW hu => TiltRow_any RA n8 W _ u (hva.below hW) hu
  have HSM : Hid (∀ W u es, Cn es n → SlR W u (cnV es) → Calls Try.prog 18 #[u, .float .f32 1065353216] W fun e w' => (∃ a' c, e = .returned (.tuple #[.slice a' n c, .bool true]) ∧ SlR w' (.slice a' n c) ((rowK (plus 1 es)).map (Value.float .f32))) ∧ Below W.heap.size W w') := Lib.hid fun W u es he hu => by
    have R := he.sm n1 n8
    exact SmoothRow_any 1 n es u W (by omega) he n1 n8 hu (R.row d8 (by decide +kernel) (by omega)) R.lt32
  have HMB : Hid (∀ W u es, Below w2.heap.size w2 W → Cn es n → SlR W u ((rowK (plus 1 es)).map (Value.float .f32)) → Calls Try.prog 54 #[.slice aa n ac, u] W fun e w' => e = .returned (.tuple #[.float .f32 (mbS (rowK cs) (rowK (plus 1 es)) n), .bool true]) ∧ Below W.heap.size W w') := Lib.hid fun W u es hW he hu => (MoreBits_any (hcn.cov he n1 n8) W _ u (hva.below hW) hu).mono fun e w' hq => ⟨hq.1, hq.2.keep⟩
  have HCE : Hid (∀ W u es, Below w2.heap.size w2 W → Cn es n → SlR W u ((rowK (plus 1 es)).map (Value.float .f32)) → Calls Try.prog 55 #[.slice aa n ac, u] W fun e w' => e = .returned (.tuple #[.float .f32 (fA .sub .f32 0 (ceS (rowK cs) (rowK (plus 1 es)) n)), .bool true]) ∧ Below W.heap.size W w') := Lib.hid fun W u es hW he hu => (CrossEntropy_any (hcn.cov he n1 n8) W _ u (hva.below hW) hu).mono fun e w' hq => ⟨hq.1, hq.2.keep⟩
  have HMS : Hid (∀ W, Below w2.heap.size w2 W → Calls Try.prog 54 #[.slice aa n ac, .slice aa n ac] W fun e w' => e = .returned (.tuple #[.float .f32 (mbS (rowK cs) (rowK cs) n), .bool true]) ∧ Below W.heap.size W w') := Lib.hid fun W hW => (MoreBits_any ⟨RA, RA, n8, fun _ _ e => e⟩ W _ _ (hva.below hW) (hva.below hW)).mono fun e w' hq => ⟨hq.1, hq.2.keep⟩
  have HME : Hid (∀ W u, Below w2.heap.size w2 W → SlR W u ((evS n).map (Value.float .f32)) → Calls Try.prog 56 #[u, .slice aa n ac] W fun e w' => e = .returned (.tuple #[.bool true, .bool true]) ∧ Below W.heap.size W w') := Lib.hid fun W u hW hu => by
    have := meR_any RE RA d8 d9 d8 d9 n8 W u _ hu (hva.below hW)
    rwa [hcn.even n1 n8] at this
  have HMM : Hid (∀ W u, Below w2.heap.size w2 W → SlR W u ((mxS k (rowK cs) (rowK ds) n).map (Value.float .f32)) → Calls Try.prog 56 #[u, .slice aa n ac] W fun e w' => e = .returned (.tuple #[.bool (mevB (falF (mxS k (rowK cs) (rowK ds) n)) (falF (rowK cs)) n), .bool true]) ∧ Below W.heap.size W w') := Lib.hid fun W u hW hu => meR_any RM RA d2 d3 d8 d9 n8 W u _ hu (hva.below hW)
  have HES : Hid (∀ W B, Below w2.heap.size w2 W → SlR W (.slice (some ⟨B, 0, none⟩) 2 2) [.slice aa n ac, .slice ba n bc] → Calls Try.prog 57 #[.slice (some ⟨B, 0, none⟩) 2 2, .int .i64 (wk : Int)] W (RetSl W 32 2 ([entF (rowK cs), entF (rowK ds)].map (Value.float .f32)) (fun v => .tuple #[v, .bool true]))) := Lib.hid fun W B hW hu => by rw [HWE.out]; exact esR_any hcn hdn n1 n8 W _ t2 l2 (mx2 hu (hva.below hW) (hvb.below hW))
  have FA := Lib.hid (factA hcn hdn n1 n8 k17)
  have FB := Lib.hid (factB hcn n1 n8)
  have FC := Lib.hid (gap0 (sp_self hcn n1 n8) (by decide +kernel) (by decide +kernel))
  have FD := Lib.hid (fun es he => factD hcn hdn (es := es) he n1 n8 k17)
  have FE : Hid (FloatKind.f32.format.order (entF (rowK cs)) (entF (rowK cs)) = some .eq ∧ FloatKind.f32.format.order (entF (rowK ds)) (entF (rowK ds)) = some .eq) := Lib.hid ⟨ord_eq_yes (k := .f32) (eo_row RA d8 d9 n8).2 (eo_row RA d8 d9 n8).2 rfl, ord_eq_yes (k := .f32) (eo_row RB d8 d9 n8).2 (eo_row RB d8 d9 n8).2 rfl⟩
  have RT := tlS_row RA n8
  have FT := Lib.hid (fun i hi => gapQ (RT.el i hi) (RA.el i hi))
  have FL : Hid (∀ i, i < n → (rowK cs)[i]?.getD 0 < 2139095040) := Lib.hid fun i hi => (RA.el i hi).1
  have LA := RA.len
  have LT := RT.len
  have HCN : Hid (∀ t, hcN (rowK cs) (t + 1) = if (rowK cs)[t]?.getD 0 = 0 then hcN (rowK cs) t else hcN (rowK cs) t + 1) := Lib.hid fun _ => rfl
  have HCL := Lib.hid (hc_le (rowK cs))
  have HC0 : Hid (hcN (rowK cs) 0 = 0) := Lib.hid rfl
  clear RA RB RM RE TW RO d8 d9 d2 d3 hcn hdn RT h1 h8 hs2 hvb k17 HWE
  generalize entF (mxS k (rowK cs) (rowK ds) n) = zw at *
  generalize mevB (falF (mxS k (rowK cs) (rowK ds) n)) (falF (rowK cs)) n = hb at *
  generalize mxS k (rowK cs) (rowK ds) n = M at *
  generalize faW (rowK cs) (rowK ds) n = fw at *
  generalize rooW (rowK cs) (rowK ds) n = rw' at *
  generalize spV (rowK cs) (rowK ds) = sw at *
  generalize spV (rowK cs) (rowK cs) = ssw at *
  generalize entF (evS n) = tw at *
  generalize evS n = E at *
  generalize tlS (rowK cs) (tsS (rowK cs) n) = TL at *
  generalize hcN (rowK cs) = hcF at *
  generalize fA .sub .f32 0 (enB (qwC 1 (hcF n))) = uw at *
  generalize orW 1056964608 (rowK cs) n = low at *
  generalize orW 1073741824 (rowK cs) n = high at *
  generalize orW 0 (rowK cs) n = zer at *
  generalize entF (rowK cs) = xw at *
  generalize entF (rowK ds) = yw at *
  generalize mbS (rowK cs) (rowK cs) n = own at *
  generalize shW k = hw at *
  have B2 := Below.refl w2.heap.size w2
  go_upto_region 8 with (go_at_call 33; refine (HEA.out _ B2).mono ?_; rintro e w3 ⟨rfl, hb3⟩)
  have B3 := B2.trans (hb3.mono B2.size)
  clear HEA B2 hb3
  go_upto_region 9 with (go_at_call 33; refine (HEB.out _ B3).mono ?_; rintro e w4 ⟨rfl, hb4⟩)
  have B4 := B3.trans (hb4.mono B3.size)
  clear HEB B3 hb4
  go_upto_region 10 with (go_at_call 45; refine (HMX.out _ B4).mono ?_; rintro e w5 ⟨⟨ma, mc, rfl, hmx⟩, hb5⟩)
  have B5 := B4.trans (hb5.mono B4.size)
  clear HMX B4 hb5
  go_upto_region 11 with (go_at_call 33; refine (HEM.out _ _ hmx).mono ?_; rintro e w6 ⟨rfl, hb6⟩)
  have B6 := B5.trans (hb6.mono B5.size)
  have hmx := hmx.below hb6
  clear HEM B5 hb6
  go_upto_region 12 with (go_at_call 46; refine (HEV.out _).mono ?_; rintro e w7 ⟨⟨ea, ec, rfl, hev⟩, hb7⟩)
  have B7 := B6.trans (hb7.mono B6.size)
  have hmx := hmx.below hb7
  clear HEV B6 hb7
  go_upto_region 13 with (go_at_call 33; refine (HEE.out _ _ hev).mono ?_; rintro e w8 ⟨rfl, hb8⟩)
  have B8 := B7.trans (hb8.mono B7.size)
  have hmx := hmx.below hb8
  have hev := hev.below hb8
  clear HEE B7 hb8
  go_upto_region 14 with (go_at_call 47; refine (HSP.out _ B8).mono ?_; rintro e w9 ⟨rfl, hb9⟩)
  have B9 := B8.trans (hb9.mono B8.size)
  have hmx := hmx.below hb9
  have hev := hev.below hb9
  clear HSP B8 hb9
  go_upto_region 15 with (go_at_call 48; refine (HFA.out _ B9).mono ?_; rintro e w10 ⟨rfl, hb10⟩)
  have B10 := B9.trans (hb10.mono B9.size)
  have hmx := hmx.below hb10
  have hev := hev.below hb10
  clear HFA B9 hb10
  go_upto_region 16 with (go_at_call 49; refine (HRF.out _ B10).mono ?_; rintro e w11 ⟨rfl, hb11⟩)
  have B11 := B10.trans (hb11.mono B10.size)
  have hmx := hmx.below hb11
  have hev := hev.below hb11
  clear HRF B10 hb11
  have cv : ∀ x : Nat, (floatToFloatBits .f32 x .f64).isSome = true → ∀ W : World, (convert 32 29 (.float .f32 x)).run Try.prog W = .ok (.float .f64 (up64 x)) W := fun x hx W => run_convert_float_float (P := Try.prog) W 32 29 .f32 .f64 _ _ (by rw [Try.underlying32]; rfl) Try.underlying29 (up_runG _ hx)
  have HCV := Lib.hid cv
  have HV1 := Lib.hid (cv _ FA.out.1.1)
  have HV3 := Lib.hid (cv _ FA.out.1.2.2.1)
  clear cv
  go_cut [237] from 124 to 237 (fun s237 W => s237 = .bool false ∧ Below w2.heap.size w2 W ∧ SlR W (.slice ma n mc) (M.map (Value.float .f32)) ∧ SlR W (.slice ea n ec) (E.map (Value.float .f32)))
  case first =>
    as_aux_lemma =>
      clear HO1 HO2 HO3 hs1 HSU HSS HFF HTI HSM HMB HCE HMS HME HMM HES FB FC FD FE FT FL LA LT HCN HCL HCO HA2 HV1 HV3 hva hbw2
      obtain ⟨⟨v1, v2, v3, v4, v5, v6, v7, v8⟩, f1, ⟨f2, f3⟩, ⟨f4, f5, f6, f7, f8, f9⟩, g1, g2, g3, g4, ⟨g5, g6, g7⟩, ⟨g8, g9, g10⟩⟩ := FA.out
      have V1 := HCV.out _ v1
      have V2 := HCV.out _ v2
      have V3 := HCV.out _ v3
      have V4 := HCV.out _ v4
      have V5 := HCV.out _ v5
      have V6 := HCV.out _ v6
      have V7 := HCV.out _ v7
      have V8 := HCV.out _ v8
      unfold w001 at f2 f3 f8 f9 g6 g7 g9 g10
      unfold n001 at f1 g1
      unfold w1001 at g2 g4
      unfold one64 at f4 f5 f7 f8 f9
      unfold w14143 at g8 g9 g10
      clear FA v1 v2 v3 v4 v5 v6 v7 v8 HCV
      generalize up64 xw = ux at *
      generalize up64 yw = uy at *
      generalize up64 zw = uz at *
      generalize up64 tw = ut at *
      generalize up64 sw = us at *
      generalize up64 fw = uf at *
      generalize up64 rw' = ur at *
      generalize up64 hw = uh at *
      go_wp2_with (first
        | (go_at_call 50; with_reducible refine (HIM.out _ _ hm12).mono ?_; rintro e w13 ⟨rfl, hb13⟩)
        | (go_at_call 50; with_reducible refine (HIA.out _ B11).mono ?_; rintro e w12 ⟨rfl, hb12⟩; have B12 := B11.trans (hb12.mono B11.size); have hm12 := hmx.below hb12; have he12 := hev.below hb12))
      go_meet
      exact ⟨rfl, B12.trans (hb13.mono B12.size), hm12.below hb13, he12.below hb13⟩
  case rest =>
    obtain ⟨rfl, Bc, hmx, hev⟩ := hcut
    clear FA HIM HIA B11
    go_upto_region 18 with fail
    go_upto_region 19 with (go_at_call 51; refine (HO1.out _ Bc).mono ?_; rintro e w14 ⟨rfl, hb14⟩)
    have B14 := Bc.trans (hb14.mono Bc.size)
    have hmx := hmx.below hb14
    have hev := hev.below hb14
    clear HO1 Bc hb14
    go_upto_region 20 with (go_at_call 51; refine (HO2.out _ B14).mono ?_; rintro e w15 ⟨rfl, hb15⟩)
    have B15 := B14.trans (hb15.mono B14.size)
    have hmx := hmx.below hb15
    have hev := hev.below hb15
    clear HO2 B14 hb15
    go_upto_region 21 with (go_at_call 51; refine (HO3.out _ B15).mono ?_; rintro e w16 ⟨rfl, hb16⟩)
    have B16 := B15.trans (hb16.mono B15.size)
    have hmx := hmx.below hb16
    have hev := hev.below hb16
    clear HO3 B15 hb16
    obtain ⟨i0, hi0, hz00, hz01, hz02⟩ := info_parts info_Float32S
    obtain ⟨xb, xo, xc, xe, _, _, xcell⟩ := sl_cells hva LA n1
    simp only [Value.slice.injEq] at xe
    obtain ⟨rfl, -, rfl⟩ := xe
    have HXC := Lib.hid xcell
    clear xcell
    go_upto_block 0 with fail
    go_cut [33, 34] from 253 to 264 (fun s33 _ W => s33 = .int .i64 ((hcF n : Nat) : Int) ∧ w16 = W)
    case first =>
      as_aux_lemma =>
        clear HSU HSS HFF HTI HSM HMB HCE HMS HME HMM HES FB FC FD FE FT LA LT HCO HA2 HV1 HV3 HCV HWK hmx hev
        go_wp2_with fail
        go_loopw [33, 34] (fun s q W => ∃ t : Nat, t ≤ n ∧ q = .int .i64 (t : Int) ∧ s = .int .i64 ((hcF t : Nat) : Int) ∧ w16 = W) (fun _ q _ => n - (intOf q).toNat)
        case atStart => exact ⟨0, Nat.zero_le _, rfl, by rw [HC0.out]; rfl, rfl⟩
        case round =>
          obtain ⟨t, ht, rfl, rfl, rfl⟩ := hrel
          by_cases hlt : t < n
          · have cx := HXC.out w16 B16 t hlt
            have fx := FL.out t hlt
            have HCS := Lib.hid (HCN.out t)
            have hct := HCL.out t
            generalize (rowK cs)[t]?.getD 0 = xt at *
            by_cases h0 : xt = 0
            · subst h0
              have ho : FloatKind.f32.format.order 0 0 = some .eq := by decide +kernel
              go_wp2
              go_roundw
              case rel => exact ⟨t + 1, by omega, by go_num, by rw [HCS.out, if_pos rfl], by first | rfl | trivial⟩
              case measure => simp [intOf]; omega
            · have H0 := Lib.hid h0
              have ho := order_x0 (show 0 < xt by omega) fx
              clear h0
              go_wp2
              go_roundw
              case rel => exact ⟨t + 1, by omega, by go_num, by rw [HCS.out, if_neg H0.out]; push_cast; rfl, by first | rfl | trivial⟩
              case measure => simp [intOf]; omega
          · obtain rfl : n = t := by omega
            go_wp2
            go_meet
            case rel => exact ⟨rfl, rfl⟩
    case rest =>
      obtain ⟨rfl, rfl⟩ := hcut
      go_upto_region 28 with (go_at_call 52; refine (HSU.out _).mono ?_; rintro e w17 ⟨rfl, hb17⟩)
      have B17 := B16.trans (hb17.mono B16.size)
      have hmx := hmx.below hb17
      have hev := hev.below hb17
      clear HSU HCN HCL FL B16 hb17 hs1 HC0
      go_cut [309] from 272 to 309 (fun s309 W => s309 = .bool false ∧ w17 = W)
      case first =>
        as_aux_lemma =>
          clear HSS HFF HTI HSM HMB HCE HMS HME HMM HES FC FD FE FT LA LT HCO HA2 HV3 hva hbw2 HXC hmx hev HWK
          obtain ⟨⟨v1, v2, v3, v4⟩, ⟨f2, f3⟩, ⟨f4, f5⟩, g, g1, G⟩ := FB.out
          have V0 := HV1.out
          have V1 := HCV.out _ v1
          have V2 := HCV.out _ v2
          have V3 := HCV.out _ v3
          have V4 := HCV.out _ v4
          have HG := Lib.hid G
          unfold w001 at f2 f3 f4 f5 g1
          clear FB v1 v2 v3 v4 HCV HV1 G
          generalize up64 xw = ux at *
          generalize up64 low = ul at *
          generalize up64 high = uh at *
          generalize up64 zer = uz at *
          generalize up64 uw = uu at *
          go_wp2_with (go_at_call 14; refine (HG.out _).mono ?_; rintro e w' ⟨rfl, rfl⟩)
          go_meet
          exact ⟨rfl, rfl⟩
      case rest =>
        obtain ⟨rfl, rfl⟩ := hcut
        clear FB
        go_upto_region 30 with fail
        go_upto_region 31 with (go_at_call 47; refine (HSS.out _ B17).mono ?_; rintro e w18 ⟨rfl, hb18⟩)
        have B18 := B17.trans (hb18.mono B17.size)
        have hmx := hmx.below hb18
        have hev := hev.below hb18
        clear HSS B17 hb18
        go_upto_region 32 with (go_at_call 48; refine (HFF.out _ B18).mono ?_; rintro e w19 ⟨rfl, hb19⟩)
        have B19 := B18.trans (hb19.mono B18.size)
        have hmx := hmx.below hb19
        have hev := hev.below hb19
        clear HFF B18 hb19
        have hZV : List.replicate n (Value.float .f32 0) = zrV n := by simp [zrV]
        have HZV := Lib.hid hZV
        clear hZV
        go_upto_region 33 with (first
          | (go_at_call 53; refine (HTI.out _ _ B20 hz20).mono ?_; rintro e w21 ⟨⟨ta, tc, rfl, hti⟩, hb21⟩)
          | (at_make; refine wpList_make_full _ rfl _ _ 25 rfl w19.heap.size 32 i0 (.float .f32 0) 1 Try.underlying25 hi0 hz00 hz01 .i64 .i64 _ _ n rfl rfl rfl rfl (by rw [hz02]; omega) (by unfold maxLen; omega) (Nat.le_refl _) ?_; intro w20 hown hgr; rw [Nat.mul_one, show (Value.cells (.float .f32 0)) = #[.float .f32 0] from rfl, toList_madeCells_one, HZV.out] at hown; have hb20 : Below w19.heap.size w19 w20 := (Below.refl _ _).grown hgr (Nat.le_refl _) (by simp); have B20 := B19.trans (hb20.mono B19.size); have hz20 := SlR.own hown))
        have B21 := B20.trans (hb21.mono B20.size)
        have hmx := (hmx.below hb20).below hb21
        have hev := (hev.below hb20).below hb21
        clear HTI B19 B20 hb20 hb21 hown hgr hz20
        go_cut [354] from 329 to 354 (fun s354 W => s354 = .bool false ∧ w21 = W)
        case first =>
          as_aux_lemma =>
            clear HSM HMB HCE HMS HME HMM HES FD FE FT LA LT HCO HA2 HV1 HV3 hva hbw2 HXC hmx hev HWK hti
            obtain ⟨v1, g, g1, _, G⟩ := FC.out
            have V1 := HCV.out _ v1
            have HG := Lib.hid G
            have h00 : FloatKind.f32.format.order 0 0 = some .eq := by decide +kernel
            unfold w001 at g1
            clear FC v1 HCV G
            generalize up64 ssw = us at *
            go_wp2_with (go_at_call 14; refine (HG.out _).mono ?_; rintro e w' ⟨rfl, rfl⟩)
            go_meet
            exact ⟨rfl, rfl⟩
        case rest =>
          obtain ⟨rfl, rfl⟩ := hcut
          clear FC
          obtain ⟨tb, tof, tc', te, _, _, tcell⟩ := sl_cells hti LT n1
          simp only [Value.slice.injEq] at te
          obtain ⟨rfl, -, rfl⟩ := te
          have HTC := Lib.hid tcell
          clear tcell
          go_upto_block 2 with fail
          go_cut [43] from 355 to 371 (fun _ W => Below w21.heap.size w21 W)
          case first =>
            as_aux_lemma =>
              clear HSM HMB HCE HMS HME HMM HES FD FE LA LT HCO HA2 HV1 HV3 HWK hmx hev hti
              go_wp2_with fail
              go_loopw [43] (fun q W => ∃ t : Nat, t ≤ n ∧ q = .int .i64 (t : Int) ∧ Below w21.heap.size w21 W) (fun q _ => n - (intOf q).toNat)
              case atStart => exact ⟨0, Nat.zero_le _, rfl, Below.refl _ _⟩
              case round =>
                obtain ⟨t, ht, rfl, hb⟩ := hrel
                by_cases hlt : t < n
                · have cx := HXC.out wr (B21.trans (hb.mono B21.size)) t hlt
                  have ct := HTC.out wr hb t hlt
                  obtain ⟨v1, v2, g, g1, G⟩ := FT.out t hlt
                  have V1 := HCV.out _ v1
                  have V2 := HCV.out _ v2
                  have HG := Lib.hid G
                  unfold w001 at g1
                  clear v1 v2 G
                  generalize (rowK cs)[t]?.getD 0 = xt at *
                  generalize TL[t]?.getD 0 = yt at *
                  generalize up64 xt = ux at *
                  generalize up64 yt = uy at *
                  go_upto_region 38 with fail
                  go_quiet ((go_at_call 14; exact Calls.quiet_of_same ((HG.out _).mono (fun e w' ⟨h1, h2⟩ => ⟨h1, h2.symm⟩))))
                  go_wp2
                  go_roundw
                  case rel => exact ⟨t + 1, by omega, by go_num, below_drewN hb _⟩
                  case measure => simp [intOf]; omega
                · obtain rfl : n = t := by omega
                  go_wp2
                  go_meet
                  case rel => exact hb
          case rest =>
            have hb := hcut
            have B22 := B21.trans (hb.mono B21.size)
            have hmx := hmx.below hb
            have hev := hev.below hb
            clear FT HTC hti B21 hb LT
            have HCO1 := Lib.hid (HCO.out wc n (hbw2.trans (B22.mono hbw2.size)) n1 (by omega))
            clear HCO
            go_upto_region 41 with (first
              | (go_at_call 18; refine (HSM.out _ _ _ hes hce).mono ?_; rintro e w24 ⟨⟨sa, sc, rfl, hsm⟩, hb24⟩)
              | (go_at_call 16; refine HCO1.out.mono ?_; rintro e w23 ⟨⟨es, ev, hes, rfl, hce⟩, hb23⟩))
            have B23 := B22.trans (hb23.mono B22.size)
            have B24 := B23.trans (hb24.mono B23.size)
            have hmx := (hmx.below hb23).below hb24
            have hev := (hev.below hb23).below hb24
            clear HSM HCO1 B22 B23 hb23 hb24 hce
            have FD1 := Lib.hid (FD.out es hes)
            clear FD
            go_upto_region 42 with (go_at_call 54; refine (HMB.out _ _ _ B24 hes hsm).mono ?_; rintro e w25 ⟨rfl, hb25⟩)
            have B25 := B24.trans (hb25.mono B24.size)
            have hmx := hmx.below hb25
            have hev := hev.below hb25
            have hsm := hsm.below hb25
            clear HMB B24 hb25
            go_upto_region 43 with (go_at_call 55; refine (HCE.out _ _ _ B25 hes hsm).mono ?_; rintro e w26 ⟨rfl, hb26⟩)
            have B26 := B25.trans (hb26.mono B25.size)
            have hmx := hmx.below hb26
            have hev := hev.below hb26
            clear HCE B25 hb26 hes hsm
            go_upto_region 44 with (go_at_call 54; refine (HMS.out _ B26).mono ?_; rintro e w27 ⟨rfl, hb27⟩)
            have B27 := B26.trans (hb27.mono B26.size)
            have hmx := hmx.below hb27
            have hev := hev.below hb27
            clear HMS B26 hb27
            go_upto_region 45 with (go_at_call 56; refine (HME.out _ _ B27 hev).mono ?_; rintro e w28 ⟨rfl, hb28⟩)
            have B28 := B27.trans (hb28.mono B27.size)
            have hmx := hmx.below hb28
            clear HME B27 hb28 hev
            go_upto_region 46 with (go_at_call 56; refine (HMM.out _ _ B28 hmx).mono ?_; rintro e w29 ⟨rfl, hb29⟩)
            have B29 := B28.trans (hb29.mono B28.size)
            clear HMM B28 hb29 hmx
            have Bw := hbw2.trans (B29.mono hbw2.size)
            have B30 : Below w2.heap.size w2 (w29.alloc (.cells #[.slice (some ⟨xb, xo, none⟩) n ac, .slice ba n bc] 25)) := B29.alloc B29.size _
            have Bw30 : Below w.heap.size w (w29.alloc (.cells #[.slice (some ⟨xb, xo, none⟩) n ac, .slice ba n bc] 25)) := Bw.alloc Bw.size _
            have HSL : SlR (w29.alloc (.cells #[.slice (some ⟨xb, xo, none⟩) n ac, .slice ba n bc] 25)) (.slice (some ⟨w29.heap.size, 0, none⟩) 2 2) [.slice (some ⟨xb, xo, none⟩) n ac, .slice ba n bc] := by
              refine ⟨_, _, rfl, by simp, by unfold maxLen; simp, fun j u hu => ⟨_, 0, rfl, ?_⟩⟩
              match j, hu with
              | 0, hu => simp at hu; simp [hu]
              | 1, hu => simp at hu; simp [hu]
            have HES1 := Lib.hid (HES.out _ _ B30 HSL)
            have HA21 := Lib.hid (HA2.out _ Bw30)
            obtain ⟨hwk2, hwk8⟩ := HWK.out
            have Bws := Bw30.size
            have HBW := Lib.hid Bw30
            obtain ⟨⟨v1, v2, v3⟩, f1, ⟨f2, f3, f4, g, f5, G⟩, ⟨g', f6, G'⟩, f7, f8⟩ := FD1.out
            have V0 := HV1.out
            have VZ := HV3.out
            have V1 := HCV.out _ v1
            have V2 := HCV.out _ v2
            have V3 := HCV.out _ v3
            obtain ⟨e1, e2⟩ := FE.out
            have HG := Lib.hid G
            have HG' := Lib.hid G'
            unfold w001 at f4 f5 f6 f7 f8
            unfold one64 at f3 f4 f5
            unfold n001 at f1
            clear FD1 FE v1 v2 v3 HCV HV1 HV3 G G' HES HA2 HWK B29 Bw B30 Bw30 HSL hva hbw2 LA HXC
            generalize up64 (mbS (rowK cs) (rowK (plus 1 es)) n) = um at *
            generalize up64 (fA .sub .f32 0 (ceS (rowK cs) (rowK (plus 1 es)) n)) = uc at *
            generalize up64 xw = ux at *
            generalize up64 zw = uz at *
            generalize up64 own = uo at *
            generalize mbS (rowK cs) (rowK (plus 1 es)) n = mw at *
            generalize fA .sub .f32 0 (ceS (rowK cs) (rowK (plus 1 es)) n) = cw at *
            go_upto_region 47 with (first
              | (go_at_call 57; refine HES1.out.mono ?_; rintro e w31 ⟨sa', sc', rfl, hO, hb31⟩)
              | (go_at_call 9; refine HA21.out.mono ?_; rintro e w' ⟨rfl, rfl⟩))
            obtain ⟨sb, so, sc2, se, _, _, scell⟩ := sl_cells (us := [xw, yw]) (n := 2) (SlR.own hO) rfl (by decide)
            simp only [Value.slice.injEq] at se
            obtain ⟨rfl, -, rfl⟩ := se
            have s0 := scell _ (Below.refl _ _) 0 (by decide)
            have s1 := scell _ (Below.refl _ _) 1 (by decide)
            change w31.cell? ⟨sb, so + 0, none⟩ = some (.float .f32 xw) at s0
            change w31.cell? ⟨sb, so + 1, none⟩ = some (.float .f32 yw) at s1
            have s00 : w31.cell? ⟨sb, so, none⟩ = some (.float .f32 xw) := s0
            have Bend := HBW.out.trans (hb31.mono Bws)
            clear scell hO hb31 HBW Bws HES1 HA21 hwk2 hwk8 l2
            clear hmx hsm hev n1 n8 hc hm hi0 hz00 hz01 hz02 HZV
            as_aux_lemma =>
              go_wp2_with (first
                | (go_at_call 14; with_reducible refine (HG'.out _).mono ?_; rintro e w' ⟨rfl, rfl⟩)
                | (go_at_call 14; with_reducible refine (HG.out _).mono ?_; rintro e w' ⟨rfl, rfl⟩))
              all_goals
                go_ret
                exact ⟨rfl, Bend⟩

set_option maxRecDepth 100000 in
theorem law_FnEntropies (w : World) (a1 : Option Addr) (c1 : Nat) (code : List UInt8) (_ : code.length ≤ c1 ∧ c1 ≤ 9223372036854775807) (s1 : SlR w (.slice a1 code.length c1) (byv code)) (_ : ∀ x ∈ code, True) (a2 : Option Addr) (c2 : Nat) (more : List UInt8) (_ : more.length ≤ c2 ∧ c2 ≤ 9223372036854775807) (s2 : SlR w (.slice a2 more.length c2) (byv more)) (_ : ∀ x ∈ more, True) :
    Calls Try.prog 7 #[.slice a1 code.length c1, .slice a2 more.length c2] w fun e w' => e = .returned (.bool true) ∧ Below w.heap.size w w' := by
  by_cases h : code.length ≤ 48 ∧ more.length ≤ 48
  · exact entropies_walk w a1 a2 c1 c2 code more _ _ rfl rfl h.1 h.2 s1 s2
  · have HL := Lib.hid (r8Long_any _ _ code more w s1 s2)
    rw [show (decide (48 < code.length) || decide (48 < more.length)) = true by simp; omega] at HL
    clear s1 s2 h
    generalize code.length = n1 at *
    generalize more.length = n2 at *
    go_enter Try.func7, Try.ntmps7
    go_wp2_with (go_at_call 8; refine HL.out.mono ?_; rintro e w' ⟨rfl, rfl⟩)
    go_ret
    exact ⟨rfl, Below.refl _ _⟩


end Go.Proofs.Ytmocfnpbofeiiaa
