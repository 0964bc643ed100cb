/- The reference's GivenEntropy at tables near exact ones. -/
import Derived.Test.YtmocfnpbofeiiaaMTbG
import Derived.Test.YtmocfnpbofeiiaaMStb
import Derived.Deep.RegionLaw
namespace Go.Proofs.Ytmocfnpbofeiiaa
set_option linter.unusedSimpArgs false
set_option linter.unusedVariables false
open Go.RowKit
open Ieee
/-- A call of a Go function, as one step of a region that draws; its value and world are told by R. -/
theorem step_callG {P : Program} {ops : Array Oper} {o : Oper} {A : Act} {w : World} {K : Act → World → Prop} {Q : Exit → Act → World → Prop} {E : Prop} {f : FuncId} (hen : ∀ args w, (callFunc f args).run P w = .ok (.enter f args) w) (vals cap : List Value) (R : Value → World → Prop) (hc : Calls P f (vals ++ cap).toArray w fun e w' => ∃ v, e = .returned v ∧ R v w')
    (hgd : o.guard = none) (callee : Operand) (argOps : List Operand) (tys : Array TypeId)
    (hop : o.op = .call { callee := .value callee, args := argOps.toArray, argTypes := tys }) (hcal : A.eval callee = .func (.func f) #[] cap.toArray) (hargs : argOps.map A.eval = vals) (hK : ∀ v W', R v W' → K (A.put o.dst v) W') :
    if Region.wanted o (yielded ops A.tmps) = true then Oper.wp P o A w K Q else E := by
  have hw : Region.wanted o (yielded ops A.tmps) = true := by simp [Region.wanted, hgd]
  rw [if_pos hw]
  have hrun : (execOp A.eval o).run P w = .ok (.enter f (vals ++ cap).toArray) w := by
    simp [execOp, hop, resolve, Deferred.ofValue, hcal, invoke, hargs, hen, Result.andThen]
  unfold Oper.wp
  rw [hrun, Oper.upon_enter]
  exact hc.mono (by rintro e w' ⟨v, rfl, h⟩; exact hK _ _ h)

set_option maxRecDepth 10000 in
set_option maxHeartbeats 8000000 in
theorem sge_any {d : Rat} {xs : List Nat} {a m : Nat} {p : Nat → Nat → Rat} (h : Tb d xs a m p) (d0 : 0 ≤ d) (hd : d ≤ 1 / 2000000) (w : World) (v : Value) (hv : SlR w v (xs.map (Value.float .f32))) :
    Calls Try.prog 43 #[.agg #[.int .i64 (a : Int), .int .i64 (m : Int), v]] w fun e w' => e = .returned (.tuple #[.float .f32 (geS xs m a), .bool true]) ∧ Below w.heap.size w w' := by
  have hlt := h.flat.lt32
  have hlt2 := h.flat.lt
  have a1 := h.a1
  have a2 := h.a2
  have m1 := h.m1
  have m2 := h.m2
  have hlen := h.len
  obtain ⟨W0, hW0⟩ : ∃ W0, W0 = w.alloc (.cells #[.int .i64 (a : Int), .int .i64 (m : Int), v] 47) := ⟨_, rfl⟩
  have hb0 : Below w.heap.size w W0 := by rw [hW0]; go_grown
  have c0 : W0.cell? ⟨w.heap.size, 0, none⟩ = some (.int .i64 (a : Int)) := by rw [hW0]; go_cell
  have c1 : W0.cell? ⟨w.heap.size, 1, none⟩ = some (.int .i64 (m : Int)) := by rw [hW0]; go_cell
  have c2 : W0.cell? ⟨w.heap.size, 2, none⟩ = some v := by rw [hW0]; go_cell
  have hs0 : W0.heap.size = w.heap.size + 1 := by rw [hW0]; simp
  have hv0 := hv.below hb0
  have KEEP : Hid (∀ W, Below W0.heap.size W0 W → (W.cell? ⟨w.heap.size, 0, none⟩ = some (.int .i64 (a : Int)) ∧ W.cell? ⟨w.heap.size, 1, none⟩ = some (.int .i64 (m : Int)) ∧ W.cell? ⟨w.heap.size, 2, none⟩ = some v) ∧ SlR W v (xs.map (Value.float .f32))) := Lib.hid fun W hW => ⟨⟨cell_step c0 hW, cell_step c1 hW, cell_step c2 hW⟩, hv0.below hW⟩
  have HB0 := Lib.hid hb0
  have HS0 := Lib.hid hs0
  have hpn : ∀ x ∈ xs, Pn x := fun x hx => by have := hlt2 x hx; left; omega
  have hch : ∀ x ∈ xs, Ch x := fun x hx => .inl (hlt2 x hx)
  have HTB : Hid (∀ W, Below W0.heap.size W0 W → Calls Try.prog 90 #[.pointer (some ⟨w.heap.size, 0, none⟩)] W fun e w' => e = .returned (.bool true) ∧ Qu W w') := Lib.hid fun W hW => by
    obtain ⟨⟨k0, k1, k2⟩, k3⟩ := KEEP.out W hW
    have := l02Table_any w.heap.size a m v xs W k0 k1 k2 k3 hlt
    rwa [h.valid d0 (by grind)] at this
  have HRP : Hid (∀ W, Below W0.heap.size W0 W → Calls Try.prog 93 #[.pointer (some ⟨w.heap.size, 0, none⟩)] W (RetSl W 32 a ((partsOf xs m a).map (Value.float .f32)) id)) := Lib.hid fun W hW => by
    obtain ⟨⟨k0, k1, k2⟩, k3⟩ := KEEP.out W hW
    exact l02Rows_any w.heap.size a m v xs W k0 k1 k2 k3 hpn (by omega) m1 (by omega) hlen
  have HGIV : Hid (∀ (W : World) (i : Nat), Below W0.heap.size W0 W → i < a → 0 < fsum (rowOf xs m i) → Calls Try.prog 95 #[.pointer (some ⟨w.heap.size, 0, none⟩), .int .i64 (i : Int)] W (RetSl W 32 m ((givenOf xs m i).map (Value.float .f32)) id)) := Lib.hid fun W i hW hi h0 => by
    obtain ⟨⟨k0, k1, k2⟩, k3⟩ := KEEP.out W hW
    exact l02Given_any w.heap.size m i v xs _ W k1 k2 k3 hch m1 (by omega) (by omega) (by rw [hlen]; exact row_le hi) rfl h0
  have HENT : Hid (∀ (W : World) (u : Value) (i : Nat), i < a → 0 < fsum (rowOf xs m i) → SlR W u ((givenOf xs m i).map (Value.float .f32)) → Calls Try.prog 94 #[u] W fun e w' => e = .returned (.float .f32 (entF (givenOf xs m i))) ∧ Qu W w') := Lib.hid fun W u i hi h0 hW => by
    have hr : smN (p i) m ≠ 0 := fun hc => by have := (h.partZ d0 hd hi).2 hc; omega
    have G := (h.given d0 hd hi hr).1
    exact l02Entropy_any u _ W hW (G.en (by decide +kernel)) (by rw [G.len]; omega)
  have HV : Hid (∀ i, i < a → (FloatKind.f32.format.order (fsum (rowOf xs m i)) 0 = some .eq ∧ geS xs m (i + 1) = geS xs m i) ∨ (0 < fsum (rowOf xs m i) ∧ FloatKind.f32.format.order (fsum (rowOf xs m i)) 0 = some .gt ∧ (floatBits .mul .f32 (fsum (rowOf xs m i)) (entF (givenOf xs m i))).isSome = true ∧ (floatBits .add .f32 (geS xs m i) (fA .mul .f32 (fsum (rowOf xs m i)) (entF (givenOf xs m i)))).isSome = true ∧ geS xs m (i + 1) = fA .add .f32 (geS xs m i) (fA .mul .f32 (fsum (rowOf xs m i)) (entF (givenOf xs m i))))) := Lib.hid fun i hi => by
    have hp1 := (h.part d0 (by grind) hi).1.1
    by_cases h0 : fsum (rowOf xs m i) = 0
    · left
      simp only [geS]
      rw [if_pos h0, h0]
      exact ⟨rfl, rfl⟩
    · right
      have hr : smN (p i) m ≠ 0 := fun hc => h0 ((h.partZ d0 hd hi).2 hc)
      refine ⟨by omega, order_x0 (by omega) hp1, (h.geStep d0 hd hi hr).1, (h.ge d0 hd i (by omega)).2 hi hr, ?_⟩
      simp only [geS]
      rw [if_neg h0]
  have HPL := Lib.hid (partsOf_length xs m a)
  have HPA : Hid (∀ i, i < a → (partsOf xs m a)[i]?.getD 0 = fsum (rowOf xs m i)) := Lib.hid fun i hi => parts_at xs m hi
  obtain ⟨hfin, hfz⟩ := fin_ok (h.gAp d0 hd).1.1
  have HAS : Hid (∀ W : World, Calls Try.prog 96 #[.float .f32 (geS xs m a)] W fun e w' => e = .returned (.tuple #[.float .f32 (geS xs m a), .bool true]) ∧ Qu W w') := Lib.hid fun W => by
    have := l02Number_any (geS xs m a) W
    rwa [hfin, hfz] at this
  obtain ⟨ad, n, c, rfl, -⟩ := SlR.opened 0 hv
  clear hfin hfz h hlt hlt2 hv hv0 c0 c1 c2 hb0 hs0 hlen d0 hd hpn hch
  have B0 := Below.refl W0.heap.size W0
  go_enter Try.func43, Try.ntmps43
  go_upto_region 1 with fail
  rw [← hW0]
  clear hW0
  go_upto_region 2 with (go_at_call 90; refine (HTB.out _ B0).mono ?_; rintro e w1 ⟨rfl, hq1⟩; have B1 := B0.trans (hq1.keep.mono B0.size))
  go_upto_region 4 with (go_at_call 93; refine (HRP.out _ B1).mono ?_; rintro e w2 ⟨A1, C1, rfl, ho, hb2⟩; have B2 := B1.trans (hb2.mono B1.size))
  have hrd := SlR.own ho
  obtain ⟨rb, ro, rc, re, _, _, rcell⟩ := sl_cells hrd HPL.out a1
  simp only [Value.slice.injEq] at re
  obtain ⟨rfl, -, rfl⟩ := re
  have HRC := Lib.hid rcell
  clear rcell hrd ho HRP B1 B0 hb2 hq1 HTB
  go_upto_region 6 with fail
  go_loopw [5, 6] (fun s q W => ∃ i : Nat, i ≤ a ∧ q = .int .i64 (i : Int) ∧ s = .float .f32 (geS xs m i) ∧ Below w2.heap.size w2 W) (fun _ q _ => a - (intOf q).toNat)
  case atStart => exact ⟨0, Nat.zero_le _, rfl, rfl, Below.refl _ _⟩
  case round =>
    obtain ⟨i, hi, rfl, rfl, hb⟩ := hrel
    obtain ⟨⟨b0, b1, b2⟩, -⟩ := KEEP.out wr (B2.trans (hb.mono B2.size))
    by_cases hlt : i < a
    · have cr := HRC.out wr hb i hlt
      rw [HPA.out i hlt] at cr
      rcases HV.out i hlt with ⟨v1, v2⟩ | ⟨v0, v1, v2, v3, v4⟩
      · have HV2 := Lib.hid v2
        clear v2
        generalize fsum (rowOf xs m i) = r at *
        go_wp2
        go_roundw
        case rel => exact ⟨i + 1, by omega, by go_num, by rw [HV2.out], hb⟩
        case measure => simp [intOf]; omega
      · have HV2 := Lib.hid v4
        have hbD := (B2.trans (hb.mono B2.size)).drew
        have HG1 := Lib.hid (HGIV.out wr.drew i hbD hlt v0)
        have HE1 := Lib.hid (fun W u hu => HENT.out W u i hlt v0 hu)
        have crD : wr.drew.cell? ⟨rb, ro + i, none⟩ = some (.float .f32 (fsum (rowOf xs m i))) := cr
        clear v4 v0
        generalize givenOf xs m i = gv at *
        generalize fsum (rowOf xs m i) = r at *
        generalize entF gv = en at *
        have YA := fun (ops : Array Oper) (o : Oper) (A : Act) (K : Act → World → Prop) (Q : Exit → Act → World → Prop) (E : Prop) => step_callG (P := Try.prog) (ops := ops) (o := o) (A := A) (w := wr.drew) (K := K) (Q := Q) (E := E) (fun args w => run_enter Try.func95 (by kernel_rfl) (by kernel_rfl) args w) [.pointer (some ⟨w.heap.size, 0, none⟩), .int .i64 (i : Int)] [] (fun v W' => ∃ a c, v = .slice a m c ∧ SlR W' (.slice a m c) (gv.map (Value.float .f32)) ∧ Below wr.drew.heap.size wr.drew W') (HG1.out.mono (fun e w' ⟨a, c, h1, h2, h3⟩ => ⟨_, h1, a, c, rfl, SlR.own h2, h3⟩))
        have YB := fun (W9 : World) (u : Value) (hu : SlR W9 u (gv.map (Value.float .f32))) (ops : Array Oper) (o : Oper) (A : Act) (K : Act → World → Prop) (Q : Exit → Act → World → Prop) (E : Prop) => step_callG (P := Try.prog) (ops := ops) (o := o) (A := A) (w := W9) (K := K) (Q := Q) (E := E) (fun args w => run_enter Try.func94 (by kernel_rfl) (by kernel_rfl) args w) [u] [] (fun v W' => v = .float .f32 en ∧ Qu W9 W') ((HE1.out W9 u hu).mono (fun e w' ⟨h1, h2⟩ => ⟨_, h1, rfl, h2⟩))
        go_upto_region 9 with fail
        go_region_law (first
          | ((with_reducible refine YA _ _ _ _ _ _ ?_ (.func 95) [.tmp 1, .tmp 26] #[105, 2] ?_ ?_ ?_ ?_); rfl; rfl; rfl; rfl; rintro zz W9 ⟨ga, gc, rfl, hg9, hb9⟩; have cr9 := cell_step crD hb9)
          | ((with_reducible refine YB W9 _ hg9 _ _ _ _ _ _ ?_ (.func 94) [.tmp 27] #[25] ?_ ?_ ?_ ?_); rfl; rfl; rfl; rfl; rintro zz W10 ⟨rfl, hq10⟩; have cr10 := cell_step cr9 hq10.keep))
        clear YA YB
        all_goals
          have hbE := (hb.drew.trans (hb9.mono hb.drew.size)).trans (hq10.keep.mono (hb.drew.trans (hb9.mono hb.drew.size)).size)
          go_wp2
          go_roundw
          case rel => exact ⟨i + 1, by omega, by go_num, by rw [HV2.out], hbE⟩
          case measure => simp [intOf]; omega
    · obtain rfl : i = a := by omega
      have hend := HB0.out.trans ((B2.trans (hb.mono B2.size)).mono (by rw [HS0.out]; omega))
      clear HGIV HENT HV HRC KEEP
      go_wp2_with (go_at_call 96; refine (HAS.out _).mono ?_; rintro e w5 ⟨rfl, hq5⟩)
      go_ret2
      exact ⟨rfl, hend.trans (hq5.keep.mono hend.size)⟩

end Go.Proofs.Ytmocfnpbofeiiaa
