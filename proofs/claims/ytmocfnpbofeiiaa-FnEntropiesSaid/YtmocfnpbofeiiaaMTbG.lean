/- The program's entropies of tables: GivenEntropy, CommonBits (contracts at tables near exact ones). -/
import Derived.Test.YtmocfnpbofeiiaaMTbF
import Derived.Test.YtmocfnpbofeiiaaMTbe
import Derived.Deep.RegionHeld3
import Derived.Deep.Cut
namespace Go.Proofs.Ytmocfnpbofeiiaa
set_option linter.unusedSimpArgs false
set_option linter.unusedVariables false
open Go.RowKit
open Ieee
theorem fin_ok {x : Nat} (h : Fnt single x) : finB x = true ∧ fz x = x := by
  have h1 : finB x = true := by
    unfold finB
    have : rg single x < single.infRung := h
    rw [rgs, s_inf] at this
    exact decide_eq_true this
  exact ⟨h1, by unfold fz; rw [h1]; rfl⟩
theorem parts_at (xs : List Nat) (m : Nat) {a i : Nat} (hi : i < a) : (partsOf xs m a)[i]?.getD 0 = fsum (rowOf xs m i) := by simp [partsOf, List.getElem?_map, List.getElem?_range hi]

set_option maxRecDepth 4000 in
set_option maxHeartbeats 4000000 in
theorem ge_any {d : Rat} {xs : List Nat} {a m : Nat} {p : Nat → Nat → Rat} (h : Tb d xs a m p) (d0 : 0 ≤ d) (hd : d ≤ 1 / 2000000) (w : World) (v : Value) (hv : SlR w v (xs.map (Value.float .f32))) :
    Calls Try.prog 31 #[.agg #[.int .i64 (a : Int), .int .i64 (m : Int), v]] w fun e w' => e = .returned (.tuple #[.float .f32 (geS xs m a), .bool true]) ∧ Below w.heap.size w w' := by
  have hlt := h.flat.lt32
  have hlt2 := h.flat.lt
  have a1 := h.a1
  have a2 := h.a2
  have m1 := h.m1
  have m2 := h.m2
  have hlen := h.len
  have P := h.parts d0 (by grind)
  obtain ⟨W0, hW0⟩ : ∃ W0, W0 = w.alloc (.cells #[.int .i64 (a : Int), .int .i64 (m : Int), v] 47) := ⟨_, rfl⟩
  have hb0 : Below w.heap.size w W0 := by rw [hW0]; go_grown
  have c0 : W0.cell? ⟨w.heap.size, 0, none⟩ = some (.int .i64 (a : Int)) := by rw [hW0]; go_cell
  have c1 : W0.cell? ⟨w.heap.size, 1, none⟩ = some (.int .i64 (m : Int)) := by rw [hW0]; go_cell
  have c2 : W0.cell? ⟨w.heap.size, 2, none⟩ = some v := by rw [hW0]; go_cell
  have hs0 : W0.heap.size = w.heap.size + 1 := by rw [hW0]; simp
  have hv0 := hv.below hb0
  have KEEP : Hid (∀ W, Below W0.heap.size W0 W → (W.cell? ⟨w.heap.size, 0, none⟩ = some (.int .i64 (a : Int)) ∧ W.cell? ⟨w.heap.size, 1, none⟩ = some (.int .i64 (m : Int)) ∧ W.cell? ⟨w.heap.size, 2, none⟩ = some v) ∧ SlR W v (xs.map (Value.float .f32))) := Lib.hid fun W hW => ⟨⟨cell_step c0 hW, cell_step c1 hW, cell_step c2 hW⟩, hv0.below hW⟩
  have HB0 := Lib.hid hb0
  have HS0 := Lib.hid hs0
  have HRP : Hid (Calls Try.prog 27 #[.agg #[.int .i64 (a : Int), .int .i64 (m : Int), v]] W0 (RetSl W0 32 a ((partsOf xs m a).map (Value.float .f32)) (fun v => .tuple #[v, .bool true]))) := Lib.hid (by
    have := impl_RowPart W0 a m (by unfold I64; omega) (by unfold I64; omega) v xs hv0 hlt (by rw [hlen]; have := prod_le a2 m2; omega)
    rw [outRow_yes (h.valid d0 (by grind)) (P.row (by grind) (by grind) (by omega))] at this
    simpa only [partsOf_length] using this)
  have HROW : Hid (∀ W i, i < a → SlR W v (xs.map (Value.float .f32)) → Calls Try.prog 82 #[.agg #[.int .i64 (a : Int), .int .i64 (m : Int), v], .int .i64 (i : Int)] W fun e w' => RetIn v xs m i e ∧ w' = W.alloc (.cells #[.int .i64 (a : Int), .int .i64 (m : Int), v] 47)) := Lib.hid fun W i hi hW => tbRow_any a m i v xs W hW m1 (by omega) (by omega) (by rw [hlen]; exact row_le hi)
  have HGIV : Hid (∀ W u i, i < a → 0 < fsum (rowOf xs m i) → SlR W u ((rowOf xs m i).map (Value.float .f32)) → Calls Try.prog 81 #[u, .float .f32 (fsum (rowOf xs m i))] W (RetSl W 32 m ((givenOf xs m i).map (Value.float .f32)) id)) := Lib.hid fun W u i hi h0 hW => by
    have := given_any (fsum (rowOf xs m i)) u (rowOf xs m i) W hW (by rw [h.rowLen hi]; omega) (fun x hx => .inl (hlt2 x (rowOf_mem hx))) (by have := (h.part d0 (by grind) hi).1.1; omega) h0
    rwa [h.rowLen hi] at this
  have HENT : Hid (∀ W u i, i < a → 0 < fsum (rowOf xs m i) → SlR W u ((givenOf xs m i).map (Value.float .f32)) → Calls Try.prog 80 #[u] W fun e w' => e = .returned (.float .f32 (entF (givenOf xs m i))) ∧ Qu W w') := Lib.hid fun W u i hi h0 hW => by
    have hr : smN (p i) m ≠ 0 := fun hc => by have := (h.partZ d0 hd hi).2 hc; omega
    have G := (h.given d0 hd hi hr).1
    exact entropy_any u _ W hW (G.en (by decide +kernel)) (by rw [G.len]; omega)
  have HV : Hid (∀ i, i < a → (FloatKind.f32.format.order (fsum (rowOf xs m i)) 0 = some .eq ∧ geS xs m (i + 1) = geS xs m i) ∨ (0 < fsum (rowOf xs m i) ∧ FloatKind.f32.format.order (fsum (rowOf xs m i)) 0 = some .gt ∧ (floatBits .mul .f32 (fsum (rowOf xs m i)) (entF (givenOf xs m i))).isSome = true ∧ (floatBits .add .f32 (geS xs m i) (fA .mul .f32 (fsum (rowOf xs m i)) (entF (givenOf xs m i)))).isSome = true ∧ geS xs m (i + 1) = fA .add .f32 (geS xs m i) (fA .mul .f32 (fsum (rowOf xs m i)) (entF (givenOf xs m i))))) := Lib.hid fun i hi => by
    have hp1 := (h.part d0 (by grind) hi).1.1
    by_cases h0 : fsum (rowOf xs m i) = 0
    · left
      simp only [geS]
      rw [if_pos h0, h0]
      exact ⟨rfl, rfl⟩
    · right
      have hr : smN (p i) m ≠ 0 := fun hc => h0 ((h.partZ d0 hd hi).2 hc)
      refine ⟨by omega, order_x0 (by omega) hp1, (h.geStep d0 hd hi hr).1, (h.ge d0 hd i (by omega)).2 hi hr, ?_⟩
      simp only [geS]
      rw [if_neg h0]
  have HPL := Lib.hid (partsOf_length xs m a)
  have HPA : Hid (∀ i, i < a → (partsOf xs m a)[i]?.getD 0 = fsum (rowOf xs m i)) := Lib.hid fun i hi => parts_at xs m hi
  obtain ⟨hfin, hfz⟩ := fin_ok (h.gAp d0 hd).1.1
  have HFI := Lib.hid hfin
  have HFZ := Lib.hid hfz
  have HAS : Hid (∀ W : World, Calls Try.prog 63 #[.float .f32 (geS xs m a)] W fun e w' => e = .returned (.tuple #[.float .f32 (geS xs m a), .bool true]) ∧ Qu W w') := Lib.hid fun W => by
    have := asNumber_any (geS xs m a) W
    rwa [hfin, hfz] at this
  obtain ⟨ad, n, c, rfl, -⟩ := SlR.opened 0 hv
  clear hfin hfz h P hlt hlt2 hv hv0 c0 c1 c2 hb0 hs0 hlen d0 hd
  obtain ⟨⟨b0, b1, b2⟩, hv0⟩ := KEEP.out W0 (Below.refl _ _)
  go_enter Try.func31, Try.ntmps31
  go_upto_region 1 with fail
  rw [← hW0]
  clear hW0
  go_upto_region 2 with (go_at_call 27; refine HRP.out.mono ?_; rintro e w1 ⟨A1, C1, rfl, ho, hb1⟩)
  have hrd := SlR.own ho
  obtain ⟨rb, ro, rc, re, _, _, rcell⟩ := sl_cells hrd HPL.out a1
  simp only [Value.slice.injEq] at re
  obtain ⟨rfl, -, rfl⟩ := re
  have HRC := Lib.hid rcell
  clear rcell hrd ho HRP b0 b1 b2 hv0
  go_upto_region 6 with fail
  go_loopw [6, 18] (fun s q W => ∃ i : Nat, i ≤ a ∧ q = .int .i64 (i : Int) ∧ s = .float .f32 (geS xs m i) ∧ Below w1.heap.size w1 W) (fun _ q _ => a - (intOf q).toNat)
  case atStart => exact ⟨0, Nat.zero_le _, rfl, rfl, Below.refl _ _⟩
  case round =>
    obtain ⟨i, hi, rfl, rfl, hb⟩ := hrel
    by_cases hlt : i < a
    · have cr := HRC.out wr hb i hlt
      rw [HPA.out i hlt] at cr
      obtain ⟨⟨b0, b1, b2⟩, hvr⟩ := KEEP.out wr (hb1.trans (hb.mono hb1.size))
      have HR1 := Lib.hid (HROW.out wr i hlt hvr)
      have HVR := Lib.hid hvr
      clear hvr
      rcases HV.out i hlt with ⟨v1, v2⟩ | ⟨v0, v1, v2, v3, v4⟩
      · have HV2 := Lib.hid v2
        clear v2 HR1
        generalize fsum (rowOf xs m i) = r at *
        go_wp2
        go_roundw
        case rel => exact ⟨i + 1, by omega, by go_num, by rw [HV2.out], hb⟩
        case measure => simp [intOf]; omega
      · have HV2 := Lib.hid v4
        have HG1 := Lib.hid (fun W u hu => HGIV.out W u i hlt v0 hu)
        have HE1 := Lib.hid (fun W u hu => HENT.out W u i hlt v0 hu)
        have hba : Below wr.heap.size wr (wr.alloc (.cells #[.int .i64 (a : Int), .int .i64 (m : Int), .slice ad n c] 47)) := by go_grown
        clear v4 v0
        generalize fsum (rowOf xs m i) = r at *
        generalize entF (givenOf xs m i) = en at *
        go_wp2_with (first
          | (go_at_call 80; refine (HE1.out _ _ hgr).mono ?_; rintro e w4 ⟨rfl, hq4⟩)
          | (go_at_call 81; refine (HG1.out _ _ hur).mono ?_; rintro e w3 ⟨A3, C3, rfl, ho3, hb3⟩; have hgr := SlR.own ho3; have hb13 := hb.trans ((hba.trans (hb3.mono hba.size)).mono hb.size))
          | (go_at_call 82; refine HR1.out.mono ?_; rintro e w2 ⟨⟨A2, C2, rfl, hin⟩, rfl⟩; have hur := hin _ (HVR.out.below hba)))
        go_roundw
        case rel => exact ⟨i + 1, by omega, by go_num, by rw [HV2.out], hb13.trans (hq4.keep.mono hb13.size)⟩
        case measure => simp [intOf]; omega
    · obtain rfl : i = a := by omega
      have hend := HB0.out.trans ((hb1.trans (hb.mono hb1.size)).mono (by rw [HS0.out]; omega))
      clear HROW HGIV HENT HV HRC KEEP
      go_wp2_with (go_at_call 63; refine (HAS.out _).mono ?_; rintro e w5 ⟨rfl, hq5⟩)
      go_ret2
      exact ⟨rfl, hend.trans (hq5.keep.mono hend.size)⟩
theorem divmod {i k m : Nat} (hk : k < m) : (i * m + k) / m = i ∧ (i * m + k) % m = k := by
  constructor
  · rw [Nat.add_comm, Nat.add_mul_div_right _ _ (by omega), Nat.div_eq_of_lt hk, Nat.zero_add]
  · rw [Nat.add_comm, Nat.add_mul_mod_self_right, Nat.mod_eq_of_lt hk]

set_option maxRecDepth 10000 in
set_option maxHeartbeats 8000000 in
theorem cm_any {d : Rat} {xs : List Nat} {a m : Nat} {p : Nat → Nat → Rat} (h : Tb d xs a m p) (d0 : 0 ≤ d) (hd : d ≤ 1 / 2000000) (w : World) (v : Value) (hv : SlR w v (xs.map (Value.float .f32))) :
    Calls Try.prog 32 #[.agg #[.int .i64 (a : Int), .int .i64 (m : Int), v]] w fun e w' => e = .returned (.tuple #[.float .f32 (cmS xs a m (a * m)), .bool true]) ∧ Below w.heap.size w w' := by
  have hlt := h.flat.lt32
  have a1 := h.a1
  have a2 := h.a2
  have m1 := h.m1
  have m2 := h.m2
  have hlen := h.len
  have P := h.parts d0 (by grind)
  have C := h.cols d0 hd
  obtain ⟨W0, hW0⟩ : ∃ W0, W0 = w.alloc (.cells #[.int .i64 (a : Int), .int .i64 (m : Int), v] 47) := ⟨_, rfl⟩
  have hb0 : Below w.heap.size w W0 := by rw [hW0]; go_grown
  have c0 : W0.cell? ⟨w.heap.size, 0, none⟩ = some (.int .i64 (a : Int)) := by rw [hW0]; go_cell
  have c1 : W0.cell? ⟨w.heap.size, 1, none⟩ = some (.int .i64 (m : Int)) := by rw [hW0]; go_cell
  have c2 : W0.cell? ⟨w.heap.size, 2, none⟩ = some v := by rw [hW0]; go_cell
  have hs0 : W0.heap.size = w.heap.size + 1 := by rw [hW0]; simp
  have hv0 := hv.below hb0
  have KEEP : Hid (∀ W, Below W0.heap.size W0 W → (W.cell? ⟨w.heap.size, 0, none⟩ = some (.int .i64 (a : Int)) ∧ W.cell? ⟨w.heap.size, 1, none⟩ = some (.int .i64 (m : Int)) ∧ W.cell? ⟨w.heap.size, 2, none⟩ = some v) ∧ SlR W v (xs.map (Value.float .f32))) := Lib.hid fun W hW => ⟨⟨cell_step c0 hW, cell_step c1 hW, cell_step c2 hW⟩, hv0.below hW⟩
  have HB0 := Lib.hid hb0
  have HS0 := Lib.hid hs0
  have l64 : xs.length ≤ 1048576 := by rw [hlen]; have := prod_le a2 m2; omega
  have HRP : Hid (Calls Try.prog 27 #[.agg #[.int .i64 (a : Int), .int .i64 (m : Int), v]] W0 (RetSl W0 32 a ((partsOf xs m a).map (Value.float .f32)) (fun v => .tuple #[v, .bool true]))) := Lib.hid (by
    have := impl_RowPart W0 a m (by unfold I64; omega) (by unfold I64; omega) v xs hv0 hlt l64
    rw [outRow_yes (h.valid d0 (by grind)) (P.row (by grind) (by grind) (by omega))] at this
    simpa only [partsOf_length] using this)
  have HCP : Hid (∀ W, Below W0.heap.size W0 W → Calls Try.prog 28 #[.agg #[.int .i64 (a : Int), .int .i64 (m : Int), v]] W (RetSl W 32 m ((colsOf xs m a).map (Value.float .f32)) (fun v => .tuple #[v, .bool true]))) := Lib.hid fun W hW => by
    have := impl_ColumnPart W a m (by unfold I64; omega) (by unfold I64; omega) v xs (hv0.below hW) hlt l64
    rw [outCol_yes (h.valid d0 (by grind)) (C.row (by grind) (by grind) (by omega))] at this
    simpa only [colsOf_length] using this
  have HROW : Hid (∀ W i, i < a → SlR W v (xs.map (Value.float .f32)) → Calls Try.prog 82 #[.agg #[.int .i64 (a : Int), .int .i64 (m : Int), v], .int .i64 (i : Int)] W fun e w' => RetIn v xs m i e ∧ w' = W.alloc (.cells #[.int .i64 (a : Int), .int .i64 (m : Int), v] 47)) := Lib.hid fun W i hi hW => tbRow_any a m i v xs W hW m1 (by omega) (by omega) (by rw [hlen]; exact row_le hi)
  have HRL : Hid (∀ i, i < a → (rowOf xs m i).length = m) := Lib.hid fun i hi => h.rowLen hi
  have HRA : Hid (∀ i k, k < m → (rowOf xs m i)[k]?.getD 0 = xs[i * m + k]?.getD 0) := Lib.hid fun i k hk => tb_rowAt hk
  obtain ⟨CS, hCS⟩ : ∃ CS : Nat → Nat → Nat, ∀ i k, CS i k = cmS xs a m (i * m + k) := ⟨fun i k => cmS xs a m (i * m + k), fun _ _ => rfl⟩
  have HC0 : Hid (CS 0 0 = 0) := Lib.hid (by rw [hCS, Nat.zero_mul]; rfl)
  have HCN : Hid (∀ i, CS i m = CS (i + 1) 0) := Lib.hid fun i => by rw [hCS, hCS, Nat.add_mul, Nat.one_mul, Nat.add_zero]
  have HCE : Hid (cmS xs a m (a * m) = CS a 0) := Lib.hid (by rw [hCS, Nat.add_zero])
  have HV : Hid (∀ i k, i < a → k < m → (FloatKind.f32.format.order (xs[i * m + k]?.getD 0) 0 = some .eq ∧ CS i (k + 1) = CS i k) ∨ (0 < xs[i * m + k]?.getD 0 ∧ xs[i * m + k]?.getD 0 < 2139095040 ∧ 0 < (partsOf xs m a)[i]?.getD 0 ∧ (partsOf xs m a)[i]?.getD 0 < 2139095040 ∧ 0 < (colsOf xs m a)[k]?.getD 0 ∧ (colsOf xs m a)[k]?.getD 0 < 2139095040 ∧ FloatKind.f32.format.order (xs[i * m + k]?.getD 0) 0 = some .gt ∧
      (floatBits .sub .f32 (enB (xs[i * m + k]?.getD 0)) (enB ((partsOf xs m a)[i]?.getD 0))).isSome = true ∧ (floatBits .sub .f32 (fA .sub .f32 (enB (xs[i * m + k]?.getD 0)) (enB ((partsOf xs m a)[i]?.getD 0))) (enB ((colsOf xs m a)[k]?.getD 0))).isSome = true ∧
      (floatBits .mul .f32 (xs[i * m + k]?.getD 0) (fA .sub .f32 (fA .sub .f32 (enB (xs[i * m + k]?.getD 0)) (enB ((partsOf xs m a)[i]?.getD 0))) (enB ((colsOf xs m a)[k]?.getD 0)))).isSome = true ∧
      (floatBits .add .f32 (CS i k) (fA .mul .f32 (xs[i * m + k]?.getD 0) (fA .sub .f32 (fA .sub .f32 (enB (xs[i * m + k]?.getD 0)) (enB ((partsOf xs m a)[i]?.getD 0))) (enB ((colsOf xs m a)[k]?.getD 0))))).isSome = true ∧
      CS i (k + 1) = fA .add .f32 (CS i k) (fA .mul .f32 (xs[i * m + k]?.getD 0) (fA .sub .f32 (fA .sub .f32 (enB (xs[i * m + k]?.getD 0)) (enB ((partsOf xs m a)[i]?.getD 0))) (enB ((colsOf xs m a)[k]?.getD 0)))))) := Lib.hid fun i k hi hk => by
    obtain ⟨e1, e2⟩ := divmod (i := i) hk
    have R := h.el i hi k hk
    rw [hCS, hCS, show i * m + (k + 1) = i * m + k + 1 by omega]
    by_cases h0 : xs[i * m + k]?.getD 0 = 0
    · left
      simp only [cmS]
      rw [if_pos h0, h0]
      exact ⟨rfl, rfl⟩
    · right
      have hp : p i k ≠ 0 := fun hc => h0 (R.2.1 hc)
      obtain ⟨t1, t2, t3, t4, t5, t6, t7, t8⟩ := h.cmTerm d0 hd hi hk hp
      have hjl : i * m + k < a * m := by
        have := row_le (m := m) hi
        rw [Nat.add_mul, Nat.one_mul] at this
        omega
      have S := (h.cm d0 hd (i * m + k) (by omega)).2 hjl (by rw [e1, e2]; exact hp)
      rw [e1, e2] at S
      refine ⟨t6, R.1, t7, (P.el i hi).1, t8, (C.el k hk).1, order_x0 t6 R.1, t1, t2, t3, S, ?_⟩
      simp only [cmS]
      rw [if_neg h0, e1, e2]
      rfl
  have HBO : Hid (∀ x W, 0 < x → x < 2139095040 → Calls Try.prog 73 #[.float .f32 x] W fun e w' => e = .returned (.float .f32 (enB x)) ∧ Qu W w') := Lib.hid fun x W h0 hx => bitsOf_any x W h0 hx
  have HPL := Lib.hid (partsOf_length xs m a)
  have HCL := Lib.hid (colsOf_length xs m a)
  obtain ⟨hfin, hfz⟩ := fin_ok (h.cAp d0 hd Rat.le_refl).1.1
  rw [HCE.out] at hfin hfz
  have HAS : Hid (∀ W : World, Calls Try.prog 63 #[.float .f32 (CS a 0)] W fun e w' => e = .returned (.tuple #[.float .f32 (CS a 0), .bool true]) ∧ Qu W w') := Lib.hid fun W => by
    have := asNumber_any (CS a 0) W
    rwa [hfin, hfz] at this
  obtain ⟨ad, n, c, rfl, -⟩ := SlR.opened 0 hv
  rw [HCE.out]
  clear hfin hfz h P C hlt hv hv0 c0 c1 c2 hb0 hs0 hlen d0 hd hCS HCE l64
  obtain ⟨⟨b0, b1, b2⟩, hv0⟩ := KEEP.out W0 (Below.refl _ _)
  go_enter Try.func32, Try.ntmps32
  go_upto_region 1 with fail
  rw [← hW0]
  clear hW0
  go_upto_region 2 with (go_at_call 27; refine HRP.out.mono ?_; rintro e w1 ⟨A1, C1, rfl, ho, hb1⟩; obtain ⟨⟨b0, b1, b2⟩, -⟩ := KEEP.out w1 hb1)
  go_upto_region 3 with (go_at_call 28; refine (HCP.out w1 hb1).mono ?_; rintro e w2 ⟨A2, C2, rfl, ho2, hb2⟩)
  have hrd := (SlR.own ho).below hb2
  obtain ⟨rb, ro, rc, re, _, _, rcell⟩ := sl_cells hrd HPL.out a1
  simp only [Value.slice.injEq] at re
  obtain ⟨rfl, -, rfl⟩ := re
  have HRC := Lib.hid rcell
  obtain ⟨qb, qo, qc, re, _, _, qcell⟩ := sl_cells (SlR.own ho2) HCL.out m1
  simp only [Value.slice.injEq] at re
  obtain ⟨rfl, -, rfl⟩ := re
  have HQC := Lib.hid qcell
  have hb12 := hb1.trans (hb2.mono hb1.size)
  clear rcell qcell hrd ho ho2 HRP HCP b0 b1 b2 hv0 hb1 hb2
  go_upto_region 7 with fail
  go_loopw [8, 31] (fun s q W => ∃ i : Nat, i ≤ a ∧ q = .int .i64 (i : Int) ∧ s = .float .f32 (CS i 0) ∧ Below w2.heap.size w2 W) (fun _ q _ => a - (intOf q).toNat)
  case atStart => exact ⟨0, Nat.zero_le _, rfl, by rw [HC0.out], Below.refl _ _⟩
  case round =>
    obtain ⟨i, hi, rfl, rfl, hb⟩ := hrel
    by_cases hlt : i < a
    · have cr := HRC.out wr hb i hlt
      obtain ⟨⟨b0, b1, b2⟩, hvr⟩ := KEEP.out wr (hb12.trans (hb.mono hb12.size))
      have HR1 := Lib.hid (HROW.out wr i hlt hvr)
      have hba : Below wr.heap.size wr (wr.alloc (.cells #[.int .i64 (a : Int), .int .i64 (m : Int), .slice ad n c] 47)) := by go_grown
      have HVR := Lib.hid hvr
      clear hvr
      have HV1 := Lib.hid (fun k hk => HV.out i k hlt hk)
      have hbw := hb.trans (hba.mono hb.size)
      have HIR : Hid (∀ e, RetIn (.slice ad n c) xs m i e → ∃ b off c', e = .returned (.slice (some ⟨b, off, none⟩) m c') ∧ ∀ W, Below (wr.alloc (.cells #[.int .i64 (a : Int), .int .i64 (m : Int), .slice ad n c] 47)).heap.size (wr.alloc (.cells #[.int .i64 (a : Int), .int .i64 (m : Int), .slice ad n c] 47)) W → ∀ k, k < m → W.cell? ⟨b, off + k, none⟩ = some (.float .f32 (xs[i * m + k]?.getD 0))) := Lib.hid fun e he => by
        obtain ⟨A2, C2, rfl, hin⟩ := he
        obtain ⟨b, off, c', re, _, _, cell⟩ := sl_cells (hin _ (HVR.out.below hba)) (HRL.out i hlt) m1
        simp only [Value.slice.injEq] at re
        obtain ⟨rfl, -, rfl⟩ := re
        exact ⟨b, off, _, rfl, fun W hW k hk => by rw [cell W hW k hk, HRA.out i k hk]⟩
      generalize (partsOf xs m a)[i]?.getD 0 = px at *
      go_upto_region 10 with (go_at_call 82; refine HR1.out.mono ?_; rintro e w3 ⟨hri, rfl⟩; obtain ⟨gb, go, gc, rfl, gcell⟩ := HIR.out _ hri)
      clear HR1 hri HIR HVR cr hba b0 b1 b2 hb
      generalize wr.alloc (.cells #[.int .i64 (a : Int), .int .i64 (m : Int), .slice ad n c] 47) = W3 at *
      have HGC := Lib.hid gcell
      clear gcell
      go_loopw [8, 40] (fun s q W => ∃ k : Nat, k ≤ m ∧ q = .int .i64 (k : Int) ∧ s = .float .f32 (CS i k) ∧ Below W3.heap.size W3 W) (fun _ q _ => m - (intOf q).toNat)
      case atStart => exact ⟨0, Nat.zero_le _, rfl, rfl, Below.refl _ _⟩
      case round =>
        obtain ⟨k, hk, rfl, rfl, hb⟩ := hrel
        by_cases hlt2 : k < m
        · have cx := HGC.out wr hb k hlt2
          have cq := HQC.out wr (hbw.trans (hb.mono hbw.size)) k hlt2
          rcases HV1.out k hlt2 with ⟨v1, v2⟩ | ⟨x0, xi, p0, pi, q0, qi, v1, s1, s2, s3, s4, v2⟩
          · have HV2 := Lib.hid v2
            clear v2
            generalize xs[i * m + k]?.getD 0 = x at *
            go_wp2
            go_roundw
            case rel => exact ⟨k + 1, by omega, by go_num, by rw [HV2.out], hb⟩
            case measure => simp [intOf]; omega
          · have HV2 := Lib.hid v2
            have B1 := Lib.hid (fun W => HBO.out _ W x0 xi)
            have B2 := Lib.hid (fun W => HBO.out _ W p0 pi)
            have B3 := Lib.hid (fun W => HBO.out _ W q0 qi)
            clear v2 x0 xi p0 pi q0 qi
            generalize xs[i * m + k]?.getD 0 = x at *
            generalize (colsOf xs m a)[k]?.getD 0 = qx at *
            generalize enB x = ex at *
            generalize enB px = ep at *
            generalize enB qx = eq at *
            go_upto_region 13 with fail
            go_quiet ((go_at_call 73; first | exact Calls.quiet_of (B1.out _) | exact Calls.quiet_of (B2.out _) | exact Calls.quiet_of (B3.out _)))
            go_wp2
            go_roundw
            case rel => exact ⟨k + 1, by omega, by go_num, by rw [HV2.out], below_drewN hb _⟩
            case measure => simp [intOf]; omega
        · obtain rfl : k = m := by omega
          rw [HCN.out i]
          go_wp2
          go_roundw
          case rel => exact ⟨i + 1, by omega, by go_num, rfl, hbw.trans (hb.mono hbw.size)⟩
          case measure => simp [intOf]; omega
    · obtain rfl : i = a := by omega
      have hend := HB0.out.trans ((hb12.trans (hb.mono hb12.size)).mono (by rw [HS0.out]; omega))
      clear HROW HV HRC KEEP HQC
      go_wp2_with (go_at_call 63; refine (HAS.out _).mono ?_; rintro e w5 ⟨rfl, hq5⟩)
      go_ret2
      exact ⟨rfl, hend.trans (hq5.keep.mono hend.size)⟩

end Go.Proofs.Ytmocfnpbofeiiaa
