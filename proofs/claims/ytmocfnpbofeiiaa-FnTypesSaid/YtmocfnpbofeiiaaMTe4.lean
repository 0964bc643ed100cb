/- Errors of tests: the program's TestErrors. -/
import Derived.Test.YtmocfnpbofeiiaaMTe3
import Derived.Deep.RegionHeld3
import Derived.Deep.Cut
namespace Go.Proofs.Ytmocfnpbofeiiaa
set_option linter.unusedSimpArgs false
set_option linter.unusedVariables false
open Go.RowKit
open Ieee
theorem tys_pos (n L : Nat) (hL : L = 2 ∨ L = 3) : 1 ≤ (tysL n L).length := by
  unfold tysL
  rw [outT_succ, List.length_append]
  have : 1 ≤ (inn n L n (n - n + 1)).length := by
    rcases hL with rfl | rfl <;> simp [inn]
  omega
theorem teF_take {xs ys : List Nat} {L bar : Nat} {l : List (List Nat)} {k : Nat} (hk : k < l.length) : teF xs ys L bar (l.take (k + 1)) = teS xs ys L bar (teF xs ys L bar (l.take k)) (l[k]?.getD []) := by
  rw [List.take_succ_eq_append_getElem hk, teF_snoc, List.getElem?_eq_getElem hk]; rfl
theorem geF_lt {s b : Nat} (h : FloatKind.f32.format.order s b = some .lt) : geF s b = false := by unfold geF; rw [h]; rfl
theorem geF_eq {s b : Nat} (h : FloatKind.f32.format.order s b = some .eq) : geF s b = true := by unfold geF; rw [h]; rfl
theorem geF_gt {s b : Nat} (h : FloatKind.f32.format.order s b = some .gt) : geF s b = true := by unfold geF; rw [h]; rfl
theorem finB_fnt {x : Nat} (h : finB x = true) : Fnt single x := by
  unfold Fnt
  show rg single x < 2139095040
  rw [rgs]
  exact of_decide_eq_true h
theorem teOk_no1 {xs ys : List Nat} {n : Int} {bar : Nat} (h : abvB xs ys = false) : teOk xs ys n bar = false := by unfold teOk; rw [h]; rfl
theorem outTE_no {xs ys : List Nat} {n : Int} {bar : Nat} (h : teOk xs ys n bar = false) : out_TestErrors xs ys n bar = (0, 0, false) := by unfold out_TestErrors; rw [h]; rfl

/-- The sum of a type's letters: what its round wants. -/
theorem sf_round {n L : Nat} {xs ys cs : List Nat} (hT : Ty n L cs) (hn : n ≤ 12) (hx : Abv xs) (hy : Abv ys) (h1 : xs.length = L) (h2 : ys.length = L) (hL : L ≤ 3) {j : Nat} (hj : j < L) :
    (floatBits .sub .f32 (enB (xs[j]?.getD 0)) (enB (ys[j]?.getD 0))).isSome = true ∧ (floatBits .mul .f32 (floatOfInt .f32 ((cs[j]?.getD 0 : Nat) : Int)) (fA .sub .f32 (enB (xs[j]?.getD 0)) (enB (ys[j]?.getD 0)))).isSome = true ∧ (floatBits .add .f32 (sfP xs ys cs j) (fA .mul .f32 (floatOfInt .f32 ((cs[j]?.getD 0 : Nat) : Int)) (fA .sub .f32 (enB (xs[j]?.getD 0)) (enB (ys[j]?.getD 0))))).isSome = true ∧ cs[j]?.getD 0 ≤ 12 ∧ (0 < xs[j]?.getD 0 ∧ xs[j]?.getD 0 < 2139095040) ∧ (0 < ys[j]?.getD 0 ∧ ys[j]?.getD 0 < 2139095040) := by
  obtain ⟨a, b⟩ := hT.at hj
  have hxj := hx.at (k := j) (by omega)
  have hyj := hy.at (k := j) (by omega)
  obtain ⟨t1, t2, -⟩ := trm_ok (c := cs[j]?.getD 0) hxj hyj (by omega)
  exact ⟨t1, t2, (sfP_bd hT hn hx hy h1 h2 j (by omega) (by omega)).2 hj, by omega, ⟨hxj.1, by omega⟩, ⟨hyj.1, by omega⟩⟩

set_option maxRecDepth 10000 in
set_option maxHeartbeats 8000000 in
theorem impl_TestErrors (w : World) (v : Value) (xs : List Nat) (hv : SlR w v (xs.map (Value.float .f32))) (hx : ∀ x ∈ xs, x < 4294967296) (_ : xs.length ≤ 1048576) (u : Value) (ys : List Nat) (hu : SlR w u (ys.map (Value.float .f32))) (hy : ∀ x ∈ ys, x < 4294967296) (_ : ys.length ≤ 1048576) (n : Int) (hn : I64 n) (bar : Nat) (hbar : bar < 4294967296) :
    Calls Try.prog 22 #[v, u, .int .i64 n, .float .f32 bar] w fun e w' => e = .returned (.tuple #[.float .f32 (out_TestErrors xs ys n bar).1, .float .f32 (out_TestErrors xs ys n bar).2.1, .bool (out_TestErrors xs ys n bar).2.2]) ∧ Below w.heap.size w w' := by
  have hlen : xs.length ≤ 1048576 := by assumption
  have HAB := Lib.hid (areAbove_any v u xs ys w hv hu hx hy)
  have HW1 : Hid (∀ W, Calls Try.prog 60 #[.int .i64 (xs.length : Int), .int .i64 2, .int .i64 3] W fun e w' => e = .returned (.bool (inB (xs.length : Int) 2 3)) ∧ W = w') := Lib.hid fun W => within_any _ 2 3 W
  have HW2 : Hid (∀ W, Calls Try.prog 60 #[.int .i64 n, .int .i64 0, .int .i64 12] W fun e w' => e = .returned (.bool (inB n 0 12)) ∧ W = w') := Lib.hid fun W => within_any _ 0 12 W
  have HFB : Hid (∀ W, Calls Try.prog 69 #[.float .f32 bar] W fun e w' => e = .returned (.bool (finB bar)) ∧ Qu W w') := Lib.hid fun W => implIsFinite_any bar W
  obtain ⟨a1, n1, c1, rfl, hn1, -, -, -⟩ := SlR.opened 0 hv
  obtain ⟨a2, n2, c2, rfl, hn2, -, -, -⟩ := SlR.opened 0 hu
  rw [hn1] at HW1
  cases h1 : abvB xs ys
  · rw [outTE_no (teOk_no1 h1)]
    rw [h1] at HAB
    clear h1 hv hu hx hy hn1 hn2
    go_enter Try.func22, Try.ntmps22
    go_wp2_with (go_at_call 71; refine HAB.out.mono ?_; rintro e w1 ⟨rfl, hb1⟩)
    go_ret3
    exact ⟨rfl, hb1⟩
  · rw [h1] at HAB
    cases h2 : inB (n1 : Int) 2 3
    · have hno : teOk xs ys n bar = false := by
        unfold inB at h2
        have := of_decide_eq_false h2
        unfold teOk
        by_cases h : 2 ≤ xs.length
        · rw [decide_eq_false (show ¬ xs.length ≤ 3 by omega)]; simp
        · rw [decide_eq_false h]; simp
      rw [outTE_no hno]
      rw [h2] at HW1
      clear h1 h2 hv hu hx hy hn1 hn2 hno
      go_enter Try.func22, Try.ntmps22
      go_wp2_with (first
        | (go_at_call 60; refine (HW1.out _).mono ?_; rintro e w' ⟨rfl, rfl⟩)
        | (go_at_call 71; refine HAB.out.mono ?_; rintro e w1 ⟨rfl, hb1⟩))
      go_ret3
      exact ⟨rfl, hb1⟩
    · rw [h2] at HW1
      cases h3 : inB n 0 12
      · have hno : teOk xs ys n bar = false := by unfold teOk; rw [h3]; simp
        rw [outTE_no hno]
        rw [h3] at HW2
        clear h1 h2 h3 hv hu hx hy hn1 hn2 hno
        go_enter Try.func22, Try.ntmps22
        go_upto_region 2 with (first
          | (go_at_call 60; first | (with_reducible refine (HW2.out _).mono ?_; rintro e w' ⟨rfl, rfl⟩) | (with_reducible refine (HW1.out _).mono ?_; rintro e w' ⟨rfl, rfl⟩))
          | (go_at_call 71; refine HAB.out.mono ?_; rintro e w1 ⟨rfl, hb1⟩))
        go_wp2
        go_ret3
        exact ⟨rfl, hb1⟩
      · rw [h3] at HW2
        cases h4 : finB bar
        · have hno : teOk xs ys n bar = false := by unfold teOk; rw [h4]; simp
          rw [outTE_no hno]
          rw [h4] at HFB
          clear h1 h2 h3 h4 hv hu hx hy hn1 hn2 hno
          go_enter Try.func22, Try.ntmps22
          go_upto_region 2 with (first
            | (go_at_call 69; refine (HFB.out _).mono ?_; rintro e w2 ⟨rfl, hq2⟩)
            | (go_at_call 60; first | (with_reducible refine (HW2.out _).mono ?_; rintro e w' ⟨rfl, rfl⟩) | (with_reducible refine (HW1.out _).mono ?_; rintro e w' ⟨rfl, rfl⟩))
            | (go_at_call 71; refine HAB.out.mono ?_; rintro e w1 ⟨rfl, hb1⟩))
          go_wp2
          go_ret3
          exact ⟨rfl, hb1.trans (hq2.keep.mono hb1.size)⟩
        · rw [h4] at HFB
          have hL : xs.length = 2 ∨ xs.length = 3 := by
            unfold inB at h2
            have := of_decide_eq_true h2
            omega
          obtain ⟨m, rfl⟩ : ∃ m : Nat, n = (m : Int) := ⟨n.toNat, by unfold inB at h3; have := of_decide_eq_true h3; omega⟩
          have hm : m ≤ 12 := by unfold inB at h3; have := of_decide_eq_true h3; omega
          have hok : teOk xs ys (m : Int) bar = true := by
            unfold teOk
            rw [h1, h3, h4, decide_eq_true (show 2 ≤ xs.length by omega), decide_eq_true (show xs.length ≤ 3 by omega)]; rfl
          obtain ⟨htw, hax, hay, hly, -⟩ := abvB_abv h1
          obtain ⟨hrx, hry, -⟩ := twB_split htw
          rw [hn1] at hL
          obtain ⟨L, hLd⟩ : ∃ L, L = n1 := ⟨_, rfl⟩
          subst hLd
          have hn2L : L = n2 := by omega
          subst hn2L
          obtain ⟨hN91, hty⟩ := ty_of (n := m) hm hL
          have hNp := tys_pos m L hL
          have HOUT : Hid (out_TestErrors xs ys (m : Int) bar = ((teF xs ys L bar (tysL m L)).1, (teF xs ys L bar (tysL m L)).2, true)) := by
            show _ = _
            unfold out_TestErrors
            rw [hok, Int.toNat_natCast, hn1]; rfl
          have HTY : Hid (∀ W, Calls Try.prog 72 #[.int .i64 (m : Int), .int .i64 (L : Int)] W fun e w' => ∃ v, e = .returned v ∧ TyR w' W.heap.size v (tysL m L) ∧ Below W.heap.size W w') := Lib.hid fun W => by
            rcases hL with rfl | rfl
            · exact types2_any m W hm
            · exact types3_any m W hm
          obtain ⟨l, hl⟩ : ∃ l, l = tysL m L := ⟨_, rfl⟩
          rw [← hl] at HOUT HTY hN91 hty hNp
          have HT := Lib.hid hty
          have hxl : xs.length = L := hn1
          have hyl : ys.length = L := by omega
          obtain ⟨b1, o1, k1, he1, q1, m1, cell1⟩ := sl_cells hv hxl (by omega)
          simp only [Value.slice.injEq] at he1
          obtain ⟨rfl, -, rfl⟩ := he1
          obtain ⟨b2, o2, k2, he2, q2, m2, cell2⟩ := sl_cells hu hyl (by omega)
          simp only [Value.slice.injEq] at he2
          obtain ⟨rfl, -, rfl⟩ := he2
          unfold maxLen at m1 m2
          have HC1 := Lib.hid cell1
          have HC2 := Lib.hid cell2
          have hL3 : L ≤ 3 := by omega
          have HSR : Hid (∀ cs, Ty m L cs → ∀ j, j < L → (floatBits .sub .f32 (enB (xs[j]?.getD 0)) (enB (ys[j]?.getD 0))).isSome = true ∧ (floatBits .mul .f32 (floatOfInt .f32 ((cs[j]?.getD 0 : Nat) : Int)) (fA .sub .f32 (enB (xs[j]?.getD 0)) (enB (ys[j]?.getD 0)))).isSome = true ∧ (floatBits .add .f32 (sfP xs ys cs j) (fA .mul .f32 (floatOfInt .f32 ((cs[j]?.getD 0 : Nat) : Int)) (fA .sub .f32 (enB (xs[j]?.getD 0)) (enB (ys[j]?.getD 0))))).isSome = true ∧ cs[j]?.getD 0 ≤ 12 ∧ (0 < xs[j]?.getD 0 ∧ xs[j]?.getD 0 < 2139095040) ∧ (0 < ys[j]?.getD 0 ∧ ys[j]?.getD 0 < 2139095040)) := Lib.hid fun cs hT j hj => sf_round hT hm hax hay hxl hyl hL3 hj
          have HSS : Hid (∀ cs j, sfP xs ys cs (j + 1) = fA .add .f32 (sfP xs ys cs j) (fA .mul .f32 (floatOfInt .f32 ((cs[j]?.getD 0 : Nat) : Int)) (fA .sub .f32 (enB (xs[j]?.getD 0)) (enB (ys[j]?.getD 0))))) := Lib.hid fun cs j => rfl
          have HS0 : Hid (∀ cs, sfP xs ys cs 0 = 0) := Lib.hid fun cs => rfl
          have HOR : Hid (∀ cs, Ty m L cs → FloatKind.f32.format.order (sfP xs ys cs L) bar = some .lt ∨ FloatKind.f32.format.order (sfP xs ys cs L) bar = some .eq ∨ FloatKind.f32.format.order (sfP xs ys cs L) bar = some .gt) := Lib.hid fun cs hT =>
            ord_ex ((sfP_bd hT hm hax hay hxl hyl L (Nat.le_refl _) hL3).1.fnt (k := .f32) (by show 21 + L ≤ 127; omega)) (finB_fnt h4)
          have HCA : Hid (∀ cs, Ty m L cs → ∀ W u, Below w.heap.size w W → SlR W u (cs.map nvI) → Calls Try.prog 13 #[.slice (some ⟨b1, o1, none⟩) L c1, u] W fun e w' => e = .returned (.tuple #[.float .f32 (chF xs cs L), .bool true]) ∧ Qu W w') := Lib.hid fun cs hT W u hW hu' => implChance_any m L xs cs _ u W hT hm hL hax hxl hrx (hv.below hW) hu'
          have HCB : Hid (∀ cs, Ty m L cs → ∀ W u, Below w.heap.size w W → SlR W u (cs.map nvI) → Calls Try.prog 13 #[.slice (some ⟨b2, o2, none⟩) L c2, u] W fun e w' => e = .returned (.tuple #[.float .f32 (chF ys cs L), .bool true]) ∧ Qu W w') := Lib.hid fun cs hT W u hW hu' => implChance_any m L ys cs _ u W hT hm hL hay hyl hry (hu.below hW) hu'
          have HSO : Hid (∀ k, k < l.length → (floatBits .add .f32 (teF xs ys L bar (l.take k)).1 (chF xs (l[k]?.getD []) L)).isSome = true ∧ (floatBits .add .f32 (teF xs ys L bar (l.take k)).2 (chF ys (l[k]?.getD []) L)).isSome = true) := Lib.hid fun k hk =>
            teF_some hm hax hay hxl hyl (fun c hc => hty c (List.mem_of_mem_take hc)) (by rw [List.length_take]; omega) (hty _ (by rw [List.getElem?_eq_getElem hk]; exact List.getElem_mem hk))
          have HTK : Hid (∀ k, k < l.length → teF xs ys L bar (l.take (k + 1)) = teS xs ys L bar (teF xs ys L bar (l.take k)) (l[k]?.getD [])) := Lib.hid fun k hk => teF_take hk
          have HTYK : Hid (∀ k, k < l.length → Ty m L (l[k]?.getD [])) := Lib.hid fun k hk => hty _ (by rw [List.getElem?_eq_getElem hk]; exact List.getElem_mem hk)
          have HFIN : Hid (finB (teF xs ys L bar l).1 = true ∧ finB (teF xs ys L bar l).2 = true) := Lib.hid (by
            obtain ⟨i1, i2⟩ := teF_bd (bar := bar) hm hax hay hxl hyl l hty hN91
            exact ⟨(fz_fin i1 (by omega)).1, (fz_fin i2 (by omega)).1⟩)
          have HT00 : Hid (teF xs ys L bar (l.take 0) = (0, 0)) := rfl
          have HTN : Hid (l.take l.length = l) := Lib.hid (List.take_length)
          have HBI : Hid (∀ x W, 0 < x → x < 2139095040 → Calls Try.prog 73 #[.float .f32 x] W fun e w' => e = .returned (.float .f32 (enB x)) ∧ ∃ mq, w' = W.drewN mq) := Lib.hid fun x W h0 h => bitsOf_any x W h0 h
          have HIF : Hid (∀ x W, finB x = true → Calls Try.prog 69 #[.float .f32 x] W fun e w' => e = .returned (.bool true) ∧ Qu W w') := Lib.hid fun x W h => by
            have := implIsFinite_any x W
            rw [h] at this
            exact this
          rw [HOUT.out]
          clear hl cell1 cell2 h1 h2 h3 h4 hok htw hax hay hly hrx hry hty hxl hyl hv hu hx hy hn1 hn2 hn hlen
          have hL2 : 2 ≤ L := by omega
          clear hL
          generalize hNl : l.length = N at *
          have HNL := Lib.hid hNl
          clear hNl
          go_enter Try.func22, Try.ntmps22
          go_upto_region 3 with (first
            | (go_at_call 69; refine (HFB.out _).mono ?_; rintro e w2 ⟨rfl, hq2⟩)
            | (go_at_call 60; first | (with_reducible refine (HW2.out _).mono ?_; rintro e w' ⟨rfl, rfl⟩) | (with_reducible refine (HW1.out _).mono ?_; rintro e w' ⟨rfl, rfl⟩))
            | (go_at_call 71; refine HAB.out.mono ?_; rintro e w1 ⟨rfl, hb1⟩))
          have hb2 := hb1.trans (hq2.keep.mono hb1.size)
          clear HAB HW1 HW2 HFB hq2 hb1
          go_wp2_with (go_at_call 72; refine (HTY.out _).mono ?_; rintro e w3 ⟨vt, rfl, hTR, hb3'⟩; have hat := hTR.at (by have := HNL.out; omega); rw [HNL.out] at hat; obtain ⟨gt, ct, hvt, hct, hcT⟩ := hat; subst hvt)
          have hb3 := hb2.trans (hb3'.mono hb2.size)
          have HTC := Lib.hid hcT
          clear HTY hTR hb3' hb2 hcT
          go_loopw [11, 12, 46] (fun a b i W => ∃ k : Nat, k ≤ N ∧ i = .int .i64 (k : Int) ∧ a = .float .f32 (teF xs ys L bar (l.take k)).1 ∧ b = .float .f32 (teF xs ys L bar (l.take k)).2 ∧ Qu w3 W) (fun _ _ i _ => N - (intOf i).toNat)
          case atStart => exact ⟨0, Nat.zero_le _, rfl, rfl, rfl, Qu.refl _⟩
          case round =>
            obtain ⟨k, hk, rfl, rfl, rfl, hq⟩ := hrel
            have hbw := hb3.trans (hq.keep.mono hb3.size)
            by_cases hlt : k < N
            · obtain ⟨wo, rfl⟩ : ∃ x, x = wr := ⟨_, rfl⟩
              obtain ⟨uc, hcu, hel⟩ := HTC.out k hlt
              have hcu' := cell_step hcu hq.keep
              replace hel := hel.below hq.keep
              have hTK := HTYK.out k hlt
              have hso := HSO.out k hlt
              have htk := HTK.out k hlt
              generalize l[k]?.getD [] = cs at *
              have hsl := hel.sl
              obtain ⟨gc, cc, rfl, hcc1, hcc2, hcc3⟩ := hel
              rw [hTK.len] at hcc1 hsl hcu hcu'
              have HTT := Lib.hid hTK
              have HCC : Hid (∀ W, Below wo.heap.size wo W → ∀ j, j < L → W.cell? ⟨gc, j, none⟩ = some (.int .i64 ((cs[j]?.getD 0 : Nat) : Int))) := Lib.hid fun W hW j hj => by
                have hj' : j < cs.length := by rw [hTK.len]; exact hj
                have := hcc3 j cs[j] (List.getElem?_eq_getElem hj')
                rw [List.getElem?_eq_getElem hj']
                exact cell_step this hW
              unfold maxLen at hcc2
              have hso1 := hso.1
              have hso2 := hso.2
              have HTKK := Lib.hid htk
              have HSL := Lib.hid hsl
              have HSRK := Lib.hid (HSR.out cs hTK)
              have HORK := Lib.hid (HOR.out cs hTK)
              clear hcu hso htk hsl hcc3 hTK
              obtain ⟨M, hM⟩ : ∃ M, M = (teF xs ys L bar (l.take k)).1 := ⟨_, rfl⟩
              obtain ⟨T, hT⟩ : ∃ T, T = (teF xs ys L bar (l.take k)).2 := ⟨_, rfl⟩
              rw [← hM] at hso1 ⊢
              rw [← hT] at hso2 ⊢
              have HM := Lib.hid hM
              have HTT2 := Lib.hid hT
              clear hM hT
              go_wp2_with fail
              go_loopw [15, 52] (fun s i W => ∃ j : Nat, j ≤ L ∧ i = .int .i64 (j : Int) ∧ s = .float .f32 (sfP xs ys cs j) ∧ Qu wo W) (fun _ i _ => L - (intOf i).toNat)
              case atStart => exact ⟨0, Nat.zero_le _, rfl, by rw [HS0.out], Qu.refl _⟩
              case round =>
                obtain ⟨j, hj, rfl, rfl, hq4⟩ := hrel
                by_cases hlt2 : j < L
                · have hbj := hbw.trans (hq4.keep.mono hbw.size)
                  have d1 := HC1.out wr hbj j hlt2
                  have d2 := HC2.out wr hbj j hlt2
                  have d3 := HCC.out wr hq4.keep j hlt2
                  obtain ⟨r1, r2, r3, r4, ⟨r5, r6⟩, r7, r8⟩ := HSRK.out j hlt2
                  have HSJ := Lib.hid (HSS.out cs j)
                  have hB1 : Hid (∀ W, Calls Try.prog 73 #[.float .f32 (xs[j]?.getD 0)] W fun e w' => e = .returned (.float .f32 (enB (xs[j]?.getD 0))) ∧ ∃ mq, w' = W.drewN mq) := Lib.hid fun W => HBI.out _ W r5 r6
                  have hB2 : Hid (∀ W, Calls Try.prog 73 #[.float .f32 (ys[j]?.getD 0)] W fun e w' => e = .returned (.float .f32 (enB (ys[j]?.getD 0))) ∧ ∃ mq, w' = W.drewN mq) := Lib.hid fun W => HBI.out _ W r7 r8
                  clear r5 r6 r7 r8 hbj
                  generalize xs[j]?.getD 0 = z at *
                  generalize ys[j]?.getD 0 = y at *
                  generalize cs[j]?.getD 0 = cj at *
                  generalize sfP xs ys cs j = S at *
                  generalize enB z = la at *
                  generalize enB y = lb at *
                  go_wp2_with fail
                  go_quiet (first | (go_at_call 73; first | (with_reducible exact Calls.quiet_of (hB1.out _)) | (with_reducible exact Calls.quiet_of (hB2.out _))))
                  go_wp2
                  go_roundw
                  case rel => exact ⟨j + 1, by omega, by go_num, by rw [HSJ.out], hq4.drewN _⟩
                  case measure => simp [intOf]; omega
                · obtain rfl : j = L := by omega
                  rcases HORK.out with ho | ho | ho
                  · have hg := geF_lt ho
                    have HNX : Hid (teF xs ys j bar (l.take (k + 1)) = (fA .add .f32 M (chF xs cs j), T)) := by
                      show _ = _
                      rw [HTKK.out]; unfold teS; rw [hg, if_neg (by simp), HM.out, HTT2.out]
                    have HCH := Lib.hid (HCA.out cs HTT.out wr _ (hbw.trans (hq4.keep.mono hbw.size)) (HSL.out.below hq4.keep))
                    clear hg
                    generalize chF xs cs j = X1 at *
                    generalize sfP xs ys cs j = S at *
                    go_wp2_with (go_at_call 13; refine HCH.out.mono ?_; rintro e w5 ⟨rfl, hq5⟩)
                    go_roundw
                    case rel => exact ⟨k + 1, by omega, by go_num, by rw [HNX.out], by rw [HNX.out], hq.trans (hq4.trans hq5)⟩
                    case measure => simp [intOf]; omega
                  · have hg := geF_eq ho
                    have HNX : Hid (teF xs ys j bar (l.take (k + 1)) = (M, fA .add .f32 T (chF ys cs j))) := by
                      show _ = _
                      rw [HTKK.out]; unfold teS; rw [hg, if_pos rfl, HM.out, HTT2.out]
                    have HCH := Lib.hid (HCB.out cs HTT.out wr _ (hbw.trans (hq4.keep.mono hbw.size)) (HSL.out.below hq4.keep))
                    clear hg
                    generalize chF ys cs j = X1 at *
                    generalize sfP xs ys cs j = S at *
                    go_wp2_with (go_at_call 13; refine HCH.out.mono ?_; rintro e w5 ⟨rfl, hq5⟩)
                    go_roundw
                    case rel => exact ⟨k + 1, by omega, by go_num, by rw [HNX.out], by rw [HNX.out], hq.trans (hq4.trans hq5)⟩
                    case measure => simp [intOf]; omega
                  · have hg := geF_gt ho
                    have HNX : Hid (teF xs ys j bar (l.take (k + 1)) = (M, fA .add .f32 T (chF ys cs j))) := by
                      show _ = _
                      rw [HTKK.out]; unfold teS; rw [hg, if_pos rfl, HM.out, HTT2.out]
                    have HCH := Lib.hid (HCB.out cs HTT.out wr _ (hbw.trans (hq4.keep.mono hbw.size)) (HSL.out.below hq4.keep))
                    clear hg
                    generalize chF ys cs j = X1 at *
                    generalize sfP xs ys cs j = S at *
                    go_wp2_with (go_at_call 13; refine HCH.out.mono ?_; rintro e w5 ⟨rfl, hq5⟩)
                    go_roundw
                    case rel => exact ⟨k + 1, by omega, by go_num, by rw [HNX.out], by rw [HNX.out], hq.trans (hq4.trans hq5)⟩
                    case measure => simp [intOf]; omega
            · obtain rfl : k = N := by omega
              rw [HTN.out]
              obtain ⟨f1, f2⟩ := HFIN.out
              have HI1 := Lib.hid (fun W => HIF.out _ W f1)
              have HI2 := Lib.hid (fun W => HIF.out _ W f2)
              clear f1 f2 HFIN
              obtain ⟨M, hM⟩ : ∃ M, M = (teF xs ys L bar l).1 := ⟨_, rfl⟩
              obtain ⟨T, hT⟩ : ∃ T, T = (teF xs ys L bar l).2 := ⟨_, rfl⟩
              rw [← hM] at HI1 ⊢
              rw [← hT] at HI2 ⊢
              have HM := Lib.hid hM
              have HT2 := Lib.hid hT
              clear hM hT
              go_wp2_with (go_at_call 69; first | (with_reducible refine (HI1.out _).mono ?_; rintro e w5 ⟨rfl, hq5⟩) | (with_reducible refine (HI2.out _).mono ?_; rintro e w6 ⟨rfl, hq6⟩))
              go_ret3
              exact ⟨by rw [← HM.out, ← HT2.out]; rfl, hbw.trans (((hq5.trans hq6).keep).mono hbw.size)⟩

end Go.Proofs.Ytmocfnpbofeiiaa
