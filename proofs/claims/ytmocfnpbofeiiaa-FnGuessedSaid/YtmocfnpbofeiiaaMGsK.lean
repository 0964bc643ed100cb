/- The likeliest letters, and the chance that they are wrong (BestGuesses). -/
import Derived.Test.YtmocfnpbofeiiaaMGsL
import Derived.Test.YtmocfnpbofeiiaaMJoi
import Derived.Test.YtmocfnpbofeiiaaMGsC
import Derived.Deep.AppendLies
namespace Go.Proofs.Ytmocfnpbofeiiaa
set_option linter.unusedSimpArgs false
set_option linter.unusedVariables false
open Go.RowKit
open Ieee
def gL (xs rs : List Nat) (a m t : Nat) : List Nat := (List.range t).map (bO xs rs a m)
theorem gL_succ (xs rs : List Nat) (a m t : Nat) : cnV (gL xs rs a m (t + 1)) = cnV (gL xs rs a m t) ++ [nvI (bO xs rs a m t)] := by simp [gL, cnV, List.range_succ]
theorem gL_len (xs rs : List Nat) (a m t : Nat) : (gL xs rs a m t).length = t := by simp [gL]
theorem ord_pick {x y : Nat} (hx : x < 2139095040) (hy : y < 2139095040) : (x < y ∧ FloatKind.f32.format.order y x = some .gt) ∨ (¬ x < y ∧ (FloatKind.f32.format.order y x = some .lt ∨ FloatKind.f32.format.order y x = some .eq)) := by
  rw [show FloatKind.f32.format = single from rfl, order_pp (by omega) (by omega)]
  by_cases h : x < y
  · exact .inl ⟨h, by rw [Nat.compare_eq_gt.2 h]⟩
  · right
    refine ⟨h, ?_⟩
    by_cases e : y = x
    · right; rw [Nat.compare_eq_eq.2 e]
    · left; rw [Nat.compare_eq_lt.2 (by omega)]

set_option maxRecDepth 10000 in
set_option maxHeartbeats 8000000 in
theorem BestGuesses_any {xs rs : List Nat} {a m : Nat} {C : Nat → Nat → Rat} {p : Nat → Rat} (h : Chx xs a m C) (r : Rw1 (1 / 8000000) rs a p) (lo : ∀ i, i < a → 1 / 24 ≤ p i) (w : World) (v u : Value) (hv : SlR w v (xs.map (Value.float .f32))) (hu : SlR w u (rs.map (Value.float .f32))) :
    Calls Try.prog 39 #[.agg #[.int .i64 (a : Int), .int .i64 (m : Int), v], u] w fun e w' => (∃ ad c, e = .returned (.tuple #[.slice ad m c, .float .f32 (mwO xs rs a m), .bool true]) ∧ SlR w' (.slice ad m c) (cnV (gL xs rs a m m))) ∧ Below w.heap.size w w' := by
  obtain ⟨i0, hi0, hz00, hz01, hz02⟩ := info_parts info_Int64S
  have a1 := h.a1; have a2 := h.a2; have m1 := h.m1; have m2 := h.m2; have hlen := h.len
  have T := h.turn r lo
  have J := h.joint r lo
  have hx32 : ∀ x ∈ xs, x < 4294967296 := fun x hx => by
    obtain ⟨j, hj, rfl⟩ := List.mem_iff_getElem.1 hx
    have hjl : j < a * m := by rw [← hlen]; exact hj
    have e := h.el (j / m) (Nat.div_lt_of_lt_mul (by rw [Nat.mul_comm]; exact hjl)) (j % m) (Nat.mod_lt _ (by omega))
    rw [Nat.div_add_mod' j m, List.getElem?_eq_getElem hj, Option.getD_some] at e
    have := e.1; omega
  have l16 : a * m ≤ 16 := Nat.mul_le_mul a2 m2
  have HJ : Hid (∀ W, Below w.heap.size w W → Calls Try.prog 87 #[.agg #[.int .i64 (a : Int), .int .i64 (m : Int), v], u] W (RetSl W 32 (a * m) ((jOf xs rs m a).map (Value.float .f32)) (fun v => .tuple #[.agg #[.int .i64 (a : Int), .int .i64 (m : Int), v], .bool true]))) := Lib.hid fun W hW => by
    have := impl_JointOf W a m (by unfold I64; omega) (by unfold I64; omega) v xs (hv.below hW) hx32 (by omega) u rs (hu.below hW) r.lt32 (by have := r.len; omega)
    rw [outJN_yes (h.fits r lo).2] at this
    simpa only [jOf_length] using this
  have HTU : Hid (∀ W z, SlR W z ((jOf xs rs m a).map (Value.float .f32)) → Calls Try.prog 78 #[.agg #[.int .i64 (a : Int), .int .i64 (m : Int), z]] W (RetSt W m a (tzO xs rs a m))) := Lib.hid fun W z hz => turned_any a m z _ W hz (by omega) (by omega) (by omega) (by omega) J.len
  have HTL := Lib.hid T.len
  have HLT : Hid (∀ k i, k < m → i < a → (tzO xs rs a m)[k * a + i]?.getD 0 < 2139095040) := Lib.hid fun k i hk hi => (T.el k hk i hi).1
  have HRA : Hid (∀ k i, i < a → (rowOf (tzO xs rs a m) a k)[i]?.getD 0 = (tzO xs rs a m)[k * a + i]?.getD 0) := Lib.hid fun k i hi => tb_rowAt hi
  have HGS : Hid (∀ k, k < m → (floatBits .add .f32 (gsS (tzO xs rs a m) a k) ((tzO xs rs a m)[k * a + bO xs rs a m k]?.getD 0)).isSome = true ∧ gsS (tzO xs rs a m) a (k + 1) = fA .add .f32 (gsS (tzO xs rs a m) a k) ((tzO xs rs a m)[k * a + bO xs rs a m k]?.getD 0)) := Lib.hid fun k hk => by
    have e := tb_rowAt (xs := tzO xs rs a m) (i := k) (h.bLt rs k)
    have := (h.gs r lo k (by omega)).2 hk
    rw [e] at this
    refine ⟨this, ?_⟩
    simp only [gsS]
    unfold bO at e ⊢
    rw [e]
  have HBL : Hid (∀ k, bO xs rs a m k < a) := Lib.hid fun k => h.bLt rs k
  have HBS : Hid (∀ k, bO xs rs a m k = bsI (rowOf (tzO xs rs a m) a k) a) := Lib.hid fun k => rfl
  have HBI : Hid (∀ k t, t ≤ a → bsI (rowOf (tzO xs rs a m) a k) t < a) := Lib.hid fun k t ht => by
    have := (bsI_spec (rowOf (tzO xs rs a m) a k) t).1
    omega
  have HB1 : Hid (∀ k t, bsI (rowOf (tzO xs rs a m) a k) (t + 1) = if (rowOf (tzO xs rs a m) a k)[bsI (rowOf (tzO xs rs a m) a k) t]?.getD 0 < (rowOf (tzO xs rs a m) a k)[t]?.getD 0 then t else bsI (rowOf (tzO xs rs a m) a k) t) := Lib.hid fun k t => rfl
  have HGL := Lib.hid (gL_succ xs rs a m)
  obtain ⟨M1, d, d0, d1, d2, M⟩ := h.miss r lo
  have hmp := (M.pos d2 (by have := (h.rLe r lo).1; clear M; grind)).1
  have hmo := order_x0 hmp M.1
  have HMW : Hid (fA .sub .f32 1065353216 (gsS (tzO xs rs a m) a m) = mwO xs rs a m) := Lib.hid rfl
  obtain ⟨W0, hW0⟩ : ∃ W0, W0 = w.alloc (.cells #[.int .i64 (a : Int), .int .i64 (m : Int), v] 59) := ⟨_, rfl⟩
  have hb0 : Below w.heap.size w W0 := by rw [hW0]; go_grown
  have c0 : W0.cell? ⟨w.heap.size, 0, none⟩ = some (.int .i64 (a : Int)) := by rw [hW0]; go_cell
  have c1 : W0.cell? ⟨w.heap.size, 1, none⟩ = some (.int .i64 (m : Int)) := by rw [hW0]; go_cell
  have c2 : W0.cell? ⟨w.heap.size, 2, none⟩ = some v := by rw [hW0]; go_cell
  have HB0 := Lib.hid hb0
  obtain ⟨va, vn, vc, rfl, -⟩ := SlR.opened 0 hv
  obtain ⟨ua, un, uc, rfl, -⟩ := SlR.opened 0 hu
  clear hv hu hx32 h r lo T J M d0 d1 d2 hmp hlen
  generalize mwO xs rs a m = mw at *
  generalize hgs : gsS (tzO xs rs a m) a = GS at *
  generalize htz : tzO xs rs a m = tz at *
  have HG0 : Hid (GS 0 = 0) := Lib.hid (by rw [← hgs]; rfl)
  clear hgs htz
  generalize hbf : bO xs rs a m = bf at *
  clear hbf
  go_enter Try.func39, Try.ntmps39
  go_upto_region 1 with fail
  rw [← hW0]
  clear hW0
  go_upto_region 2 with (go_at_call 87; refine (HJ.out W0 hb0).mono ?_; rintro e w1 ⟨A1, C1, rfl, ho1, hb1⟩)
  have hr1 := SlR.own ho1
  clear HJ c0 c1 c2 ho1
  obtain ⟨W2, hW2⟩ : ∃ W2, W2 = w1.alloc (.cells #[.int .i64 (a : Int), .int .i64 (m : Int), .slice A1 (a * m) C1] 47) := ⟨_, rfl⟩
  obtain ⟨B7, hB7⟩ : ∃ B7, B7 = w1.heap.size := ⟨_, rfl⟩
  have b2 : Below w1.heap.size w1 W2 := by rw [hW2]; go_grown
  have g0 : W2.cell? ⟨B7, 0, none⟩ = some (.int .i64 (a : Int)) := by rw [hW2, hB7]; go_cell
  have g1 : W2.cell? ⟨B7, 1, none⟩ = some (.int .i64 (m : Int)) := by rw [hW2, hB7]; go_cell
  have g2 : W2.cell? ⟨B7, 2, none⟩ = some (.slice A1 (a * m) C1) := by rw [hW2, hB7]; go_cell
  have hr2 := hr1.below b2
  have hbw2 := hb0.trans ((hb1.trans (b2.mono hb1.size)).mono hb0.size)
  rw [← hW2, ← hB7]
  clear hW2 hB7 hr1 b2 hb1 hb0
  generalize hnam : a * m = nam at *
  have HNAM := Lib.hid hnam
  clear hnam
  obtain ⟨W3, hW3⟩ : ∃ W3, W3 = W2.alloc (.cells #[] 2) := ⟨_, rfl⟩
  obtain ⟨H4, hH4⟩ : ∃ H4, H4 = W2.heap.size := ⟨_, rfl⟩
  have HH4 := Lib.hid hH4
  have b3 : Below W2.heap.size W2 W3 := by rw [hW3]; go_grown
  have hsz3 : W3.heap.size = H4 + 1 := by rw [hW3, hH4]; simp
  have hown0 : W3.ownsRow H4 2 1 (.slice (some ⟨H4, 0, none⟩) 0 0) 0 [] := by rw [hW3, hH4]; exact World.ownsRow_made W2 #[] 0 (Nat.le_refl _) (Nat.zero_le _) rfl
  go_upto_region 6 with fail
  rw [← hW3, ← hH4]
  have g0 := cell_step g0 b3
  have g1 := cell_step g1 b3
  have g2 := cell_step g2 b3
  have hr3 := hr2.below b3
  have HT3 := Lib.hid (HTU.out W3 _ hr3)
  have hbw3 := hbw2.trans (b3.mono hbw2.size)
  clear hW3 hr2 hr3 HTU b3
  go_upto_region 7 with (go_at_call 78; refine HT3.out.mono ?_; rintro e w4 ⟨A4, C4, rfl, ho4, hb4⟩)
  clear HT3 g0 g1 g2
  have hown4 := ownsRow_below hown0 hb4
  obtain ⟨tb, rfl, htb1, htb2⟩ := own_some ho4 (by rw [HTL.out]; exact Nat.mul_pos (by omega) (by omega))
  obtain ⟨tb', tof, tc, te, htn, htm, tcell⟩ := sl_cells (SlR.own ho4) rfl (by rw [HTL.out]; exact Nat.mul_pos (by omega) (by omega))
  simp only [Value.slice.injEq, Option.some.injEq, Addr.mk.injEq] at te
  obtain ⟨⟨rfl, rfl, -⟩, -, rfl⟩ := te
  obtain ⟨W5, hW5⟩ : ∃ W5, W5 = w4.alloc (.cells #[.int .i64 (m : Int), .int .i64 (a : Int), .slice (some ⟨tb, 0, none⟩) tz.length C4] 47) := ⟨_, rfl⟩
  obtain ⟨B11, hB11⟩ : ∃ B11, B11 = w4.heap.size := ⟨_, rfl⟩
  have b5 : Below w4.heap.size w4 W5 := by rw [hW5]; go_grown
  have q0 : W5.cell? ⟨B11, 0, none⟩ = some (.int .i64 (m : Int)) := by rw [hW5, hB11]; go_cell
  have q1 : W5.cell? ⟨B11, 1, none⟩ = some (.int .i64 (a : Int)) := by rw [hW5, hB11]; go_cell
  have q2 : W5.cell? ⟨B11, 2, none⟩ = some (.slice (some ⟨tb, 0, none⟩) tz.length C4) := by rw [hW5, hB11]; go_cell
  have hsz5 : W5.heap.size = B11 + 1 := by rw [hW5, hB11]; simp
  have hown5 := ownsRow_below hown4 b5
  have tc5 : ∀ j, j < tz.length → W5.cell? ⟨tb, 0 + j, none⟩ = some (.float .f32 (tz[j]?.getD 0)) := fun j hj => tcell W5 b5 j hj
  have hb45 : Below H4 W3 W5 := by
    have h1 : Below H4 W3 w4 := hb4.mono (by omega)
    exact h1.trans (b5.mono (by have := hb4.size; omega))
  have htbs : tb < B11 ∧ H4 < tb := by omega
  rw [← hW5, ← hB11]
  clear hW5 hB11 tcell ho4 hb4 b5 hown4 hown0
  have HBW3 := Lib.hid hbw3
  have hH4w : w.heap.size ≤ H4 := by have := hbw2.size; omega
  generalize hnz : tz.length = nz at *
  have HNZ := Lib.hid hnz
  have hnz16 : nz ≤ 16 := by rw [HTL.out, Nat.mul_comm, HNAM.out]; exact l16
  clear hnz hbw3 hbw2
  have HROW : Hid (∀ (W : World) (k P : Nat), P = k * a → k < m → P + a ≤ nz → Calls Try.prog 82 #[.agg #[.int .i64 (m : Int), .int .i64 (a : Int), .slice (some ⟨tb, 0, none⟩) nz C4], .int .i64 (k : Int)] W fun e w' => e = .returned (.slice (some ⟨tb, 0 + P, none⟩) a a) ∧ w' = W.alloc (.cells #[.int .i64 (m : Int), .int .i64 (a : Int), .slice (some ⟨tb, 0, none⟩) nz C4] 47)) := Lib.hid fun W k P hP hk hPn => tbRow_at m a k P tb 0 nz C4 W hP (by omega) (by omega) (by omega) hPn htn htm
  have HPN : Hid (∀ k, k < m → k * a + a ≤ nz) := Lib.hid fun k hk => by
    have := row_le (m := a) hk
    rw [Nat.add_mul, Nat.one_mul] at this
    rw [HTL.out]
    exact this
  obtain ⟨KP, hKP⟩ : ∃ KP : World → Prop, ∀ W, KP W ↔ (W.cell? ⟨B11, 0, none⟩ = some (.int .i64 (m : Int)) ∧ W.cell? ⟨B11, 1, none⟩ = some (.int .i64 (a : Int)) ∧ W.cell? ⟨B11, 2, none⟩ = some (.slice (some ⟨tb, 0, none⟩) nz C4)) ∧ (∀ j, j < nz → W.cell? ⟨tb, 0 + j, none⟩ = some (.float .f32 (tz[j]?.getD 0))) := ⟨_, fun W => Iff.rfl⟩
  have HKP := Lib.hid hKP
  have HKB : Hid (∀ W W', KP W → Below W.heap.size W W' → KP W') := Lib.hid fun W W' h hb => by
    rw [hKP] at h ⊢
    exact ⟨⟨cell_step h.1.1 hb, cell_step h.1.2.1 hb, cell_step h.1.2.2 hb⟩, fun j hj => cell_step (h.2 j hj) hb⟩
  have HKG : Hid (∀ W W' (u : Value), KP W → W.grownBy W' u.ownBlock → (∀ k, u.ownBlock = some k → k ≠ B11 ∧ k ≠ tb) → KP W') := Lib.hid fun W W' u h hg hu => by
    rw [hKP] at h ⊢
    exact ⟨⟨cell_grown h.1.1 hg (fun k hk => (hu k hk).1), cell_grown h.1.2.1 hg (fun k hk => (hu k hk).1), cell_grown h.1.2.2 hg (fun k hk => (hu k hk).1)⟩, fun j hj => cell_grown (h.2 j hj) hg (fun k hk => (hu k hk).2)⟩
  have hKP5 : KP W5 := (hKP W5).2 ⟨⟨q0, q1, q2⟩, tc5⟩
  clear hKP tc5
  go_upto_region 8 with fail
  clear q0 q1 q2
  go_loopw [9, 10, 30] (fun v s q W => ∃ k : Nat, k ≤ m ∧ q = .int .i64 (k : Int) ∧ s = .float .f32 (GS k) ∧ W.ownsRow H4 2 1 v k (cnV (gL xs rs a m k)) ∧ KP W ∧ (∀ g, v.ownBlock = some g → g ≠ B11 ∧ g ≠ tb) ∧ B11 < W.heap.size ∧ Below H4 W3 W) (fun _ _ q _ => m - (intOf q).toNat)
  case atStart => exact ⟨0, Nat.zero_le _, rfl, by rw [HG0.out], by rw [← HH4.out]; exact hown5, hKP5, fun g hg => by have := HH4.out; simp [Value.ownBlock] at hg; omega, by omega, hb45⟩
  case round =>
    clear hown5 hKP5 hb45
    obtain ⟨k, hk, rfl, rfl, hown, hkp, hne, hlt11, hb⟩ := hrel
    obtain ⟨⟨q0, q1, q2⟩, -⟩ := (HKP.out wr).1 hkp
    by_cases hkm : k < m
    · obtain ⟨P, hP⟩ : ∃ P, P = k * a := ⟨_, rfl⟩
      have hPn := HPN.out k hkm
      rw [← hP] at hPn
      have HR1 := Lib.hid (HROW.out wr k P hP hkm hPn)
      have HGS1 := HGS.out k hkm
      rw [← hP] at HGS1
      have HGSH := Lib.hid HGS1
      have hbl := HBL.out k
      have HRA1 : Hid (∀ i, i < a → (rowOf tz a k)[i]?.getD 0 = tz[P + i]?.getD 0) := Lib.hid fun i hi => by rw [HRA.out k i hi, hP]
      have HLT1 : Hid (∀ i, i < a → tz[P + i]?.getD 0 < 2139095040) := Lib.hid fun i hi => by rw [hP]; exact HLT.out k i hkm hi
      have hba : Below wr.heap.size wr (wr.alloc (.cells #[.int .i64 (m : Int), .int .i64 (a : Int), .slice (some ⟨tb, 0, none⟩) nz C4] 47)) := by go_grown
      clear HGS1 hP
      go_upto_region 13 with (go_at_call 82; refine HR1.out.mono ?_; rintro e w6 ⟨rfl, rfl⟩)
      clear q0 q1 q2 HR1
      have hkp6 := HKB.out _ _ hkp hba
      have hown6 := ownsRow_below hown hba
      have hb6 : Below H4 W3 (wr.alloc (.cells #[.int .i64 (m : Int), .int .i64 (a : Int), .slice (some ⟨tb, 0, none⟩) nz C4] 47)) := hb.trans (hba.mono hb.size |>.mono (by omega))
      obtain ⟨bI, hbI⟩ : ∃ bI : Nat → Nat, ∀ t, bI t = bsI (rowOf tz a k) t := ⟨_, fun _ => rfl⟩
      have HI0 : Hid (bI 0 = 0) := Lib.hid (by rw [hbI]; rfl)
      have HIE : Hid (bI a = bf k) := Lib.hid (by rw [hbI, HBS.out k])
      have HIL : Hid (∀ t, t ≤ a → bI t < a) := Lib.hid fun t ht => by rw [hbI]; exact HBI.out k t ht
      obtain ⟨cl, hcl⟩ : ∃ cl : Nat → Nat, ∀ i, cl i = (rowOf tz a k)[i]?.getD 0 := ⟨_, fun _ => rfl⟩
      have HIS : Hid (∀ t, bI (t + 1) = if cl (bI t) < cl t then t else bI t) := Lib.hid fun t => by rw [hbI, HB1.out k t, hcl, hcl, hbI]
      have HCX : Hid (∀ i, i < a → cl i = tz[P + i]?.getD 0) := Lib.hid fun i hi => by rw [hcl, HRA1.out i hi]
      have HCB : Hid (∀ i, i < a → cl i < 2139095040) := Lib.hid fun i hi => by rw [HCX.out i hi]; exact HLT1.out i hi
      clear hbI hcl HRA1 HLT1
      generalize wr.alloc (.cells #[.int .i64 (m : Int), .int .i64 (a : Int), .slice (some ⟨tb, 0, none⟩) nz C4] 47) = W6 at *
      have hlt6 : B11 < W6.heap.size := by have := hba.size; omega
      have HCE : Hid (∀ W, KP W → ∀ i, i < a → W.cell? ⟨tb, P + i, none⟩ = some (.float .f32 (cl i))) := Lib.hid fun W hW i hi => by
        have := ((HKP.out W).1 hW).2 (P + i) (by omega)
        rw [← HCX.out i hi, Nat.zero_add] at this
        exact this
      clear hkp hb hba hlt11
      go_loopw [14, 38] (fun s q W => ∃ t : Nat, t ≤ a ∧ q = .int .i64 (t : Int) ∧ s = .int .i64 ((bI t : Nat) : Int) ∧ Below W6.heap.size W6 W) (fun _ q _ => a - (intOf q).toNat)
      case atStart => exact ⟨0, Nat.zero_le _, rfl, by rw [HI0.out]; rfl, Below.refl _ _⟩
      case round =>
        obtain ⟨t, ht, rfl, rfl, hb⟩ := hrel
        have hkp := HKB.out _ _ hkp6 hb
        by_cases hta : t < a
        · have hbt := HIL.out t ht
          have cx := HCE.out wr hkp t hta
          have cb := HCE.out wr hkp (bI t) hbt
          have HN := Lib.hid (HIS.out t)
          rcases ord_pick (HCB.out (bI t) hbt) (HCB.out t hta) with ⟨e1, e2⟩ | ⟨e1, e2⟩
          · have HN2 : Hid (bI (t + 1) = t) := Lib.hid (by rw [HN.out, if_pos e1])
            clear HN e1
            generalize cl t = y at *
            generalize cl (bI t) = x at *
            generalize bI t = bt at *
            go_wp2
            go_roundw
            case rel => exact ⟨t + 1, by omega, by go_num, by rw [HN2.out], hb⟩
            case measure => simp [intOf]; omega
          · have HN2 : Hid (bI (t + 1) = bI t) := Lib.hid (by rw [HN.out, if_neg e1])
            clear HN e1
            generalize cl t = y at *
            generalize cl (bI t) = x at *
            have HB := Lib.hid (rfl : bI t = bI t)
            rcases e2 with e2 | e2
            all_goals
              go_wp2
              go_roundw
              case rel => exact ⟨t + 1, by omega, by go_num, by rw [HN2.out], hb⟩
              case measure => simp [intOf]; omega
        · obtain rfl : t = a := by omega
          rw [HIE.out]
          have hbk := HBL.out k
          have hownI := ownsRow_below hown6 hb
          have hbI := hb6.trans (hb.mono (by have := hb6.size; omega))
          have hbsz := hb.size
          have hal : Below wr.heap.size wr (wr.alloc (.cells #[.int .i64 ((bf k : Nat) : Int)] 2)) := by go_grown
          have hkpA := HKB.out _ _ hkp hal
          have HGS2 := HGSH.out
          have cbx := HCX.out (bf k) hbk
          rw [← cbx] at HGS2
          clear cbx hkp
          go_wp2_with (at_builtin; refine wpList_append_lies (wr.alloc (.cells #[.int .i64 ((bf k : Nat) : Int)] 2)) rfl _ _ 30 rfl H4 2 i0 (.int .i64 0) 1 8 Try.underlying30 hi0 hz00 hz01 hz02 rfl (by decide) u9 k _ rfl (hownI.alloc _) ⟨wr.heap.size, 0, none⟩ 1 1 [.int .i64 ((bf k : Nat) : Int)] rfl rfl (cell_one_new _ _ _) (one_oneCell rfl) (by decide) (by unfold maxLen; omega) (by omega) (by simp only [World.size_alloc]; have := hbI.size; omega) (wr.heap.size + 1) (by simp) ?_; intro g2 c2 w7 hown7 hg7 hat7 hlt7; have hkp7 := HKG.out _ _ _ hkpA hg7 hne; have cz := HCE.out w7 hkp7 (bf k) hbk; obtain ⟨hadd, hGS⟩ := HGS2; have HGN := Lib.hid hGS; clear hGS)
          have hb7 : Below H4 W3 w7 := Below.grown (hbI.trans (hal.mono (by have := hbI.size; omega))) hg7 (by simp only [World.size_alloc]; have := hbI.size; omega) (fun g hg => own_grown_lt hown g hg)
          have hsz7 := hg7.size
          simp only [World.size_alloc] at hsz7
          go_roundw
          case rel =>
            refine ⟨k + 1, by omega, by go_num, by rw [HGN.out], by rw [HGL.out]; exact hown7, hkp7, fun g hg => ?_, by omega, hb7⟩
            simp only [Value.ownBlock, Option.some.injEq] at hg
            rcases hat7 with h7 | h7
            · exact hne g (by rw [h7, ← hg])
            · omega
          case measure => simp [intOf]; omega
    · obtain rfl : k = m := by omega
      have hend := HBW3.out.trans (hb.mono (by omega))
      have hrd := SlR.own hown
      obtain ⟨oa, oc, rfl⟩ := ownsRow_shape hown
      rw [← HMW.out] at hmo
      clear hkp hne HKP HKB HKG HPN HROW HGS HGL
      go_wp2_with fail
      refine bodyPost_ret (v := .tuple #[.slice oa k oc, .float .f32 (fA .sub .f32 1065353216 (GS k)), .bool true]) (by simp [results, Try.results39, go_sem, *]) rfl ?_
      rw [HMW.out]
      exact ⟨⟨oa, oc, rfl, hrd⟩, hend⟩

end Go.Proofs.Ytmocfnpbofeiiaa

/- A bound of what is not told (MissBound). -/
namespace Go.Proofs.Ytmocfnpbofeiiaa
set_option linter.unusedSimpArgs false
set_option linter.unusedVariables false
open Go.RowKit
open Ieee
theorem two_row (W : World) (x y : Nat) : SlR (W.alloc (.cells #[.float .f32 x, .float .f32 y] 32)) (.slice (some ⟨W.heap.size, 0, none⟩) 2 2) ([x, y].map (Value.float .f32)) := by
  refine ⟨_, _, rfl, by simp, by unfold maxLen; simp, fun j u hu => ⟨_, 0, rfl, ?_⟩⟩
  match j, hu with
  | 0, hu => simp at hu; simp [hu]
  | 1, hu => simp at hu; simp [hu]

set_option maxRecDepth 10000 in
set_option maxHeartbeats 8000000 in
theorem MissBound_any {xs rs : List Nat} {a m : Nat} {C : Nat → Nat → Rat} {p : Nat → Rat} (h : Chx xs a m C) (r : Rw1 (1 / 8000000) rs a p) (lo : ∀ i, i < a → 1 / 24 ≤ p i) (w : World) (v u : Value) (hv : SlR w v (xs.map (Value.float .f32))) (hu : SlR w u (rs.map (Value.float .f32))) :
    Calls Try.prog 40 #[.agg #[.int .i64 (a : Int), .int .i64 (m : Int), v], u] w fun e w' => e = .returned (.tuple #[.float .f32 (bwO xs rs a m), .bool true]) ∧ Below w.heap.size w w' := by
  have a1 := h.a1; have a2 := h.a2
  obtain ⟨e1, e2, e3, e4, e5, e6, _⟩ := h.bound r lo
  obtain ⟨n1, _⟩ := h.nw r lo
  obtain ⟨_, _, l1, l2⟩ := lb_nat (a - 1) (by omega)
  obtain ⟨hfin, hfz⟩ := fin_ok e6.1
  have HAS : Hid (∀ W : World, Calls Try.prog 63 #[.float .f32 (bwO xs rs a m)] W fun e w' => e = .returned (.tuple #[.float .f32 (bwO xs rs a m), .bool true]) ∧ Qu W w') := Lib.hid fun W => by
    have := asNumber_any (bwO xs rs a m) W
    rwa [hfin, hfz] at this
  have HEN : Hid (∀ (W : World) (u : Value), SlR W u ([mwO xs rs a m, nwO xs rs a m].map (Value.float .f32)) → Calls Try.prog 80 #[u] W fun e w' => e = .returned (.float .f32 (entF [mwO xs rs a m, nwO xs rs a m])) ∧ Qu W w') := Lib.hid fun W u hW => entropy_any u _ W hW e1 (by simp)
  have HBI : Hid (∀ W : World, Calls Try.prog 73 #[.float .f32 (fw (a - 1))] W fun e w' => e = .returned (.float .f32 (enB (fw (a - 1)))) ∧ Qu W w') := Lib.hid fun W => bitsOf_any _ W l1 l2
  have HBG : Hid (∀ W, Below w.heap.size w W → Calls Try.prog 39 #[.agg #[.int .i64 (a : Int), .int .i64 (m : Int), v], u] W fun e w' => (∃ ad c, e = .returned (.tuple #[.slice ad m c, .float .f32 (mwO xs rs a m), .bool true]) ∧ SlR w' (.slice ad m c) (cnV (gL xs rs a m m))) ∧ Below W.heap.size W w') := Lib.hid fun W hW => BestGuesses_any h r lo W v u (hv.below hW) (hu.below hW)
  have hfo : floatOfInt .f32 ((a : Int) - 1) = fw (a - 1) := by unfold fw; congr 1; omega
  have hbw : bwO xs rs a m = fA .add .f32 (entF [mwO xs rs a m, nwO xs rs a m]) (fA .mul .f32 (mwO xs rs a m) (enB (fw (a - 1)))) := rfl
  have hnw : nwO xs rs a m = fA .sub .f32 1065353216 (mwO xs rs a m) := rfl
  rw [hnw] at HEN e5 hbw
  have HBW := Lib.hid hbw
  clear e1 e6 l1 l2 hfin hfz hbw hnw e2 e3
  generalize bwO xs rs a m = bw at *
  generalize mwO xs rs a m = mw at *
  obtain ⟨W0, hW0⟩ : ∃ W0, W0 = w.alloc (.cells #[.int .i64 (a : Int), .int .i64 (m : Int), v] 59) := ⟨_, rfl⟩
  have hb0 : Below w.heap.size w W0 := by rw [hW0]; go_grown
  have c0 : W0.cell? ⟨w.heap.size, 0, none⟩ = some (.int .i64 (a : Int)) := by rw [hW0]; go_cell
  have c1 : W0.cell? ⟨w.heap.size, 1, none⟩ = some (.int .i64 (m : Int)) := by rw [hW0]; go_cell
  have c2 : W0.cell? ⟨w.heap.size, 2, none⟩ = some v := by rw [hW0]; go_cell
  have HB0 := Lib.hid hb0
  have HBG0 := Lib.hid (HBG.out W0 hb0)
  obtain ⟨va, vn, vc, rfl, -⟩ := SlR.opened 0 hv
  obtain ⟨ua, un, uc, rfl, -⟩ := SlR.opened 0 hu
  clear hv hu h r lo hb0 HBG
  go_enter Try.func40, Try.ntmps40
  go_upto_region 1 with fail
  rw [← hW0]
  clear hW0
  go_upto_region 2 with (go_at_call 39; refine HBG0.out.mono ?_; rintro e w1 ⟨⟨ad, c, rfl, -⟩, hb1⟩)
  have c0 := cell_step c0 hb1
  clear c1 c2 HBG0
  have hi2 : decide ((a : Int) < 2) = false := decide_eq_false (by omega)
  go_upto_region 4 with fail
  have cD : w1.drew.cell? ⟨w.heap.size, 0, none⟩ = some (.int .i64 (a : Int)) := c0
  have HSL := Lib.hid (fun W => two_row W mw (fA .sub .f32 1065353216 mw))
  generalize hnwE : fA .sub .f32 1065353216 mw = nw at *
  have hwr : IntKind.i64.wrap ((a : Int) - 1) = (a : Int) - 1 := IntWalk.i64_in _ (by omega)
  obtain ⟨bv, hbv⟩ : ∃ bv, bv = IntKind.i64.wrap ((a : Int) - 1) := ⟨_, rfl⟩
  have hfo2 : floatOfInt .f32 (IntKind.i64.wrap ((a : Int) - 1)) = fw (a - 1) := by rw [hwr]; exact hfo
  rw [← hfo2] at HBI e4 e5
  clear hbv
  obtain ⟨WD, hWD⟩ : ∃ WD, WD = w1.drew := ⟨_, rfl⟩
  have HBW2 : Hid (bw = fA .add .f32 (entF [mw, nw]) (fA .mul .f32 mw (enB (floatOfInt .f32 (IntKind.i64.wrap ((a : Int) - 1)))))) := Lib.hid (by rw [HBW.out, hfo2, ← hnwE])
  clear hWD hfo hfo2 hwr
  have YA := fun (W9 : World) (bk : Nat) (hu : SlR W9 (.slice (some ⟨bk, 0, none⟩) 2 2) ([mw, nw].map (Value.float .f32))) (ops : Array Oper) (o : Oper) (A : Act) (K : Act → World → Prop) (Q : Exit → Act → World → Prop) (E : Prop) => step_callG (P := Try.prog) (ops := ops) (o := o) (A := A) (w := W9) (K := K) (Q := Q) (E := E) (fun args w => run_enter Try.func80 (by kernel_rfl) (by kernel_rfl) args w) [.slice (some ⟨bk, 0, none⟩) 2 2] [] (fun v W' => v = .float .f32 (entF [mw, nw]) ∧ Qu W9 W') ((HEN.out W9 _ hu).mono (fun e w' ⟨h1, h2⟩ => ⟨_, h1, rfl, h2⟩))
  have YB := fun (W9 : World) (ops : Array Oper) (o : Oper) (A : Act) (K : Act → World → Prop) (Q : Exit → Act → World → Prop) (E : Prop) => step_callG (P := Try.prog) (ops := ops) (o := o) (A := A) (w := W9) (K := K) (Q := Q) (E := E) (fun args w => run_enter Try.func73 (by kernel_rfl) (by kernel_rfl) args w) [.float .f32 (floatOfInt .f32 (IntKind.i64.wrap ((a : Int) - 1)))] [] (fun v W' => v = .float .f32 (enB (floatOfInt .f32 (IntKind.i64.wrap ((a : Int) - 1)))) ∧ Qu W9 W') ((HBI.out W9).mono (fun e w' ⟨h1, h2⟩ => ⟨_, h1, rfl, h2⟩))
  have YC := fun (W9 : World) (ops : Array Oper) (o : Oper) (A : Act) (K : Act → World → Prop) (Q : Exit → Act → World → Prop) (E : Prop) => step_callG (P := Try.prog) (ops := ops) (o := o) (A := A) (w := W9) (K := K) (Q := Q) (E := E) (fun args w => run_enter Try.func63 (by kernel_rfl) (by kernel_rfl) args w) [.float .f32 bw] [] (fun v W' => v = .tuple #[.float .f32 bw, .bool true] ∧ Qu W9 W') ((HAS.out W9).mono (fun e w' ⟨h1, h2⟩ => ⟨_, h1, rfl, h2⟩))
  rw [HBW2.out] at YC
  have hbD := hb1.drew
  have cA : (w1.alloc (.cells #[.float .f32 mw, .float .f32 nw] 32)).drew.cell? ⟨w.heap.size, 0, none⟩ = some (.int .i64 (a : Int)) := cell_step c0 (show Below w1.heap.size w1 (w1.alloc (.cells #[.float .f32 mw, .float .f32 nw] 32)).drew from Below.drew (by go_grown))
  have hsA : SlR (w1.alloc (.cells #[.float .f32 mw, .float .f32 nw] 32)).drew (.slice (some ⟨w1.heap.size, 0, none⟩) 2 2) ([mw, nw].map (Value.float .f32)) := (HSL.out w1).below ((Qu.refl _).drew.keep)
  have hqA : Below w1.heap.size w1 (w1.alloc (.cells #[.float .f32 mw, .float .f32 nw] 32)).drew := Below.drew (by go_grown)
  have HSA := Lib.hid hsA
  clear hsA
  go_region_law (first
    | ((with_reducible refine YA (w1.alloc (.cells #[.float .f32 mw, .float .f32 nw] 32)).drew _ HSA.out _ _ _ _ _ _ ?_ (.func 80) [.tmp 26] #[25] ?_ ?_ ?_ ?_); rfl; rfl; rfl; rfl; rintro zz We ⟨rfl, hqe⟩; have cE := cell_step cA hqe.keep; have hbE := hqA.trans (hqe.keep.mono hqA.size))
    | ((with_reducible refine YB w1.drew _ _ _ _ _ _ ?_ (.func 73) [.tmp 32] #[32] ?_ ?_ ?_ ?_); rfl; rfl; rfl; rfl; rintro zz Wb ⟨rfl, hqb⟩; have hbB : Below w1.heap.size w1 Wb := (Qu.refl w1).drew.keep.trans (hqb.keep.mono (Qu.refl w1).drew.keep.size))
    | ((with_reducible refine YB (w1.alloc (.cells #[.float .f32 mw, .float .f32 nw] 32)).drew _ _ _ _ _ _ ?_ (.func 73) [.tmp 32] #[32] ?_ ?_ ?_ ?_); rfl; rfl; rfl; rfl; rintro zz Wc ⟨rfl, hqc⟩; have hsC := Lib.hid (HSA.out.below hqc.keep); have hbC := hqA.trans (hqc.keep.mono hqA.size))
    | ((with_reducible refine YB We _ _ _ _ _ _ ?_ (.func 73) [.tmp 32] #[32] ?_ ?_ ?_ ?_); rfl; rfl; rfl; rfl; rintro zz Wf ⟨rfl, hqf⟩; have hbF := hbE.trans (hqf.keep.mono hbE.size))
    | ((with_reducible refine YA Wc _ hsC.out _ _ _ _ _ _ ?_ (.func 80) [.tmp 26] #[25] ?_ ?_ ?_ ?_); rfl; rfl; rfl; rfl; rintro zz Wf ⟨rfl, hqf⟩; have hbF := hbC.trans (hqf.keep.mono hbC.size))
    | ((with_reducible refine YA (Wb.alloc (.cells #[.float .f32 mw, .float .f32 nw] 32)) _ (HSL.out Wb) _ _ _ _ _ _ ?_ (.func 80) [.tmp 26] #[25] ?_ ?_ ?_ ?_); rfl; rfl; rfl; rfl; rintro zz Wf ⟨rfl, hqf⟩; have hbF := (hbB.alloc hbB.size (.cells #[.float .f32 mw, .float .f32 nw] 32)).trans (hqf.keep.mono (hbB.alloc hbB.size (.cells #[.float .f32 mw, .float .f32 nw] 32)).size))
    | ((with_reducible refine YC Wf _ _ _ _ _ _ ?_ (.func 63) [.tmp 35] #[32] ?_ ?_ ?_ ?_); rfl; rfl; rfl; rfl; rintro zz Wg ⟨rfl, hqg⟩; have hbG := hbF.trans (hqg.keep.mono hbF.size)))
  all_goals
    have hend := HB0.out.trans ((hb1.trans (hbG.mono hb1.size)).mono HB0.out.size)
    clear YA YB YC
    go_wp2
    go_ret2
    rw [HBW2.out]
    exact ⟨rfl, hend⟩

end Go.Proofs.Ytmocfnpbofeiiaa

/- How likely each letter went in (BackOf). -/
namespace Go.Proofs.Ytmocfnpbofeiiaa
set_option linter.unusedSimpArgs false
set_option linter.unusedVariables false
open Go.RowKit
open Ieee

set_option maxRecDepth 10000 in
set_option maxHeartbeats 8000000 in
theorem BackOf_any {xs rs : List Nat} {a m : Nat} {C : Nat → Nat → Rat} {p : Nat → Rat} (h : Chx xs a m C) (r : Rw1 (1 / 8000000) rs a p) (lo : ∀ i, i < a → 1 / 24 ≤ p i) (k : Nat) (hk : k < m) (w : World) (v u : Value) (hv : SlR w v (xs.map (Value.float .f32))) (hu : SlR w u (rs.map (Value.float .f32))) :
    Calls Try.prog 44 #[.agg #[.int .i64 (a : Int), .int .i64 (m : Int), v], u, .int .i64 (k : Int)] w fun e w' => (∃ ad c, e = .returned (.tuple #[.slice ad a c, .bool true]) ∧ SlR w' (.slice ad a c) ((givenOf (tzO xs rs a m) a k).map (Value.float .f32))) ∧ Below w.heap.size w w' := by
  have a1 := h.a1; have a2 := h.a2; have m1 := h.m1; have m2 := h.m2; have hlen := h.len
  have T := h.turn r lo
  have J := h.joint r lo
  have hx32 : ∀ x ∈ xs, x < 4294967296 := fun x hx => by
    obtain ⟨j, hj, rfl⟩ := List.mem_iff_getElem.1 hx
    have hjl : j < a * m := by rw [← hlen]; exact hj
    have e := h.el (j / m) (Nat.div_lt_of_lt_mul (by rw [Nat.mul_comm]; exact hjl)) (j % m) (Nat.mod_lt _ (by omega))
    rw [Nat.div_add_mod' j m, List.getElem?_eq_getElem hj, Option.getD_some] at e
    have := e.1; omega
  have l16 : a * m ≤ 16 := Nat.mul_le_mul a2 m2
  have HJ : Hid (∀ W, Below w.heap.size w W → Calls Try.prog 87 #[.agg #[.int .i64 (a : Int), .int .i64 (m : Int), v], u] W (RetSl W 32 (a * m) ((jOf xs rs m a).map (Value.float .f32)) (fun v => .tuple #[.agg #[.int .i64 (a : Int), .int .i64 (m : Int), v], .bool true]))) := Lib.hid fun W hW => by
    have := impl_JointOf W a m (by unfold I64; omega) (by unfold I64; omega) v xs (hv.below hW) hx32 (by omega) u rs (hu.below hW) r.lt32 (by have := r.len; omega)
    rw [outJN_yes (h.fits r lo).2] at this
    simpa only [jOf_length] using this
  have HTU : Hid (∀ W z, SlR W z ((jOf xs rs m a).map (Value.float .f32)) → Calls Try.prog 78 #[.agg #[.int .i64 (a : Int), .int .i64 (m : Int), z]] W (RetSt W m a (tzO xs rs a m))) := Lib.hid fun W z hz => turned_any a m z _ W hz (by omega) (by omega) (by omega) (by omega) J.len
  have HROW : Hid (∀ W z, SlR W z ((tzO xs rs a m).map (Value.float .f32)) → Calls Try.prog 82 #[.agg #[.int .i64 (m : Int), .int .i64 (a : Int), z], .int .i64 (k : Int)] W fun e w' => RetIn z (tzO xs rs a m) a k e ∧ w' = W.alloc (.cells #[.int .i64 (m : Int), .int .i64 (a : Int), z] 47)) := Lib.hid fun W z hz => tbRow_any m a k z _ W hz (by omega) (by omega) (by omega) (by rw [T.len]; exact row_le hk)
  have hr0 : smN ((fun k i => p i * C i k) k) a ≠ 0 := by
    have t := term_le (f := fun i => p i * C i k) (n := a) (j := 0) (fun i hi => T.nn hk hi) (by omega)
    have w0 := (h.wlow r lo (i := 0) (by omega) hk).1
    show smN (fun i => p i * C i k) a ≠ 0
    intro hc
    rw [hc] at t
    have t' : p 0 * C 0 k ≤ 0 := t
    grind
  have G := (T.given (by decide +kernel) (by decide +kernel) hk hr0).1
  have hP := (T.part (by decide +kernel) (by decide +kernel) hk).1
  have hs0 := (hP.pos (by decide +kernel) hr0).1
  have hlt := T.flat.lt
  have hso := order_x0 hs0 hP.1
  have HSUM : Hid (∀ W z, SlR W z ((rowOf (tzO xs rs a m) a k).map (Value.float .f32)) → Calls Try.prog 86 #[z] W fun e w' => e = .returned (.float .f32 (fsum (rowOf (tzO xs rs a m) a k))) ∧ W = w') := Lib.hid fun W z hz => addUp_any z _ W hz (fun x hx => by have := hlt x (rowOf_mem hx); left; omega)
  have HGIV : Hid (∀ W z, SlR W z ((rowOf (tzO xs rs a m) a k).map (Value.float .f32)) → Calls Try.prog 81 #[z, .float .f32 (fsum (rowOf (tzO xs rs a m) a k))] W (RetSl W 32 a ((givenOf (tzO xs rs a m) a k).map (Value.float .f32)) id)) := Lib.hid fun W z hz => by
    have := given_any (fsum (rowOf (tzO xs rs a m) a k)) z (rowOf (tzO xs rs a m) a k) W hz (by rw [T.rowLen hk]; omega) (fun x hx => .inl (hlt x (rowOf_mem hx))) (by have := hP.1; omega) hs0
    rwa [T.rowLen hk] at this
  have HAR : Hid (∀ W z, SlR W z ((givenOf (tzO xs rs a m) a k).map (Value.float .f32)) → Calls Try.prog 68 #[z] W fun e w' => e = .returned (.tuple #[z, .bool true]) ∧ Qu W w') := Lib.hid fun W z hz => asRow_yes z _ W hz G.lt32 (G.row (by decide +kernel) (by decide +kernel) (by omega))
  have HWI : Hid (∀ W : World, Calls Try.prog 60 #[.int .i64 (k : Int), .int .i64 0, .int .i64 ((m : Int) - 1)] W fun e w' => e = .returned (.bool true) ∧ W = w') := Lib.hid fun W => by
    have := within_any (k : Int) 0 ((m : Int) - 1) W
    rw [show inB (k : Int) 0 ((m : Int) - 1) = true by unfold inB; simp; omega] at this
    exact this
  obtain ⟨W0, hW0⟩ : ∃ W0, W0 = w.alloc (.cells #[.int .i64 (a : Int), .int .i64 (m : Int), v] 59) := ⟨_, rfl⟩
  have hb0 : Below w.heap.size w W0 := by rw [hW0]; go_grown
  have c0 : W0.cell? ⟨w.heap.size, 0, none⟩ = some (.int .i64 (a : Int)) := by rw [hW0]; go_cell
  have c1 : W0.cell? ⟨w.heap.size, 1, none⟩ = some (.int .i64 (m : Int)) := by rw [hW0]; go_cell
  have c2 : W0.cell? ⟨w.heap.size, 2, none⟩ = some v := by rw [hW0]; go_cell
  have HJ0 := Lib.hid (HJ.out W0 hb0)
  obtain ⟨va, vn, vc, rfl, -⟩ := SlR.opened 0 hv
  obtain ⟨ua, un, uc, rfl, -⟩ := SlR.opened 0 hu
  clear hv hu hx32 h r lo T J hlen HJ G hP hs0 hlt hr0
  generalize fsum (rowOf (tzO xs rs a m) a k) = sm at *
  generalize hgv : givenOf (tzO xs rs a m) a k = gv at *
  have HGV := Lib.hid hgv
  clear hgv
  generalize tzO xs rs a m = tz at *
  go_enter Try.func44, Try.ntmps44
  go_upto_region 1 with fail
  rw [← hW0]
  clear hW0
  go_upto_region 2 with (go_at_call 87; refine HJ0.out.mono ?_; rintro e w1 ⟨A1, C1, rfl, ho1, hb1⟩)
  have hr1 := SlR.own ho1
  have c1 := cell_step c1 hb1
  clear c0 c2 ho1
  obtain ⟨W2, hW2⟩ : ∃ W2, W2 = w1.alloc (.cells #[.int .i64 (a : Int), .int .i64 (m : Int), .slice A1 (a * m) C1] 47) := ⟨_, rfl⟩
  obtain ⟨B8, hB8⟩ : ∃ B8, B8 = w1.heap.size := ⟨_, rfl⟩
  have b2 : Below w1.heap.size w1 W2 := by rw [hW2]; go_grown
  have g0 : W2.cell? ⟨B8, 0, none⟩ = some (.int .i64 (a : Int)) := by rw [hW2, hB8]; go_cell
  have g1 : W2.cell? ⟨B8, 1, none⟩ = some (.int .i64 (m : Int)) := by rw [hW2, hB8]; go_cell
  have g2 : W2.cell? ⟨B8, 2, none⟩ = some (.slice A1 (a * m) C1) := by rw [hW2, hB8]; go_cell
  have hr2 := hr1.below b2
  have c1 := cell_step c1 b2
  have hbw2 := hb0.trans ((hb1.trans (b2.mono hb1.size)).mono hb0.size)
  rw [← hW2, ← hB8]
  clear hW2 hB8 hr1 b2 hb1 hb0
  have HT2 := Lib.hid (HTU.out W2 _ hr2)
  generalize a * m = nam at *
  clear HTU hr2
  go_upto_region 4 with (go_at_call 60; refine (HWI.out _).mono ?_; rintro e w' ⟨rfl, rfl⟩)
  go_upto_region 5 with (first
    | (go_at_call 82; refine (HROW.out _ _ hr4).mono ?_; rintro e w5 ⟨⟨A5, C5, rfl, hin⟩, rfl⟩; have hbr : Below w4.heap.size w4 (w4.alloc (.cells #[.int .i64 (m : Int), .int .i64 (a : Int), .slice A4 tz.length C4] 47)) := (by go_grown); have hr5 := hin _ (hr4.below hbr); have hbw5 := hbw4.trans (hbr.mono hbw4.size))
    | (go_at_call 78; refine HT2.out.mono ?_; rintro e w4 ⟨A4, C4, rfl, ho4, hb4⟩; have hr4 := SlR.own ho4; have hbw4 := hbw2.trans (hb4.mono hbw2.size)))
  clear HROW HT2 g0 g1 g2 c1 hbw2 hbr
  generalize w4.alloc (.cells #[.int .i64 (m : Int), .int .i64 (a : Int), .slice A4 tz.length C4] 47) = W6 at *
  go_upto_region 6 with (go_at_call 86; refine (HSUM.out _ _ hr5).mono ?_; rintro e w' ⟨rfl, rfl⟩)
  go_wp2_with (first
    | (go_at_call 68; refine (HAR.out _ _ hr7).mono ?_; rintro e w8 ⟨rfl, hq8⟩)
    | (go_at_call 81; refine (HGIV.out _ _ hr5).mono ?_; rintro e w7 ⟨A7, C7, rfl, ho7, hb7⟩; have hr7 := SlR.own ho7; have hbw7 := hbw5.trans (hb7.mono hbw5.size)))
  go_ret2
  exact ⟨⟨A7, C7, rfl, hr7.below hq8.keep⟩, hbw7.trans (hq8.keep.mono hbw7.size)⟩

end Go.Proofs.Ytmocfnpbofeiiaa
