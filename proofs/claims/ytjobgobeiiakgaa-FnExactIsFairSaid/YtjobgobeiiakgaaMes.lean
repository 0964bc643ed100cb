/- Rows at least as even as others: the reference. -/
import Derived.Test.YtjobgobeiiakgaaMev
namespace Go.Proofs.Ytjobgobeiiakgaa
set_option linter.unusedSimpArgs false
set_option linter.unusedVariables false
open Go.RowKit
open Ieee

set_option maxRecDepth 10000 in
set_option maxHeartbeats 2000000 in
theorem l02Falling_any (v : Value) (xs : List Nat) (n : Nat) (hn : xs.length = n) (h1 : 1 ≤ n) (hm : n ≤ 32) (hch : ∀ x ∈ xs, Ch x) (w : World) (hv : SlR w v (xs.map (Value.float .f32))) :
    Calls Try.prog 48 #[v] w (RetSl w 33 n ((falF xs).map (Value.float .f32)) id) := by
  obtain ⟨a, c, rfl, hnc, hcm, hcell⟩ := hv
  rw [List.length_map, hn] at hnc ⊢
  obtain ⟨b, off, rfl, -⟩ := hcell 0 (.float .f32 (xs[0]?.getD 0)) (by rw [List.getElem?_map, List.getElem?_eq_getElem (by omega)]; rfl)
  have HC : Hid (∀ W, Below w.heap.size w W → ∀ j u, (xs.map (Value.float .f32))[j]? = some u → W.cell? ((⟨b, off, none⟩ : Addr).add j) = some u) := Lib.hid fun W hW j u hu => by
    obtain ⟨b', o', e, h⟩ := hcell j u hu
    cases e
    rw [add_at]
    exact cell_step h hW
  have HN := Lib.hid hn
  have HW : Hid (∀ i, i < n → Ch (wat xs i)) := Lib.hid fun i hi => by
    unfold wat; rw [List.getElem?_eq_getElem (by omega)]; exact hch _ (List.getElem_mem _)
  have HRG := Lib.hid (wds_range xs)
  have HFA := Lib.hid (wds_fal xs)
  rw [hn] at HRG HFA
  unfold maxLen at hcm
  clear hcell hn hch
  obtain ⟨i0, hi0, hz0, hz1, hz2⟩ := info_parts info_Float32S
  have hown0 : (w.alloc (.cells #[] 33)).ownsRow w.heap.size 33 1 (.slice (some ⟨w.heap.size, 0, none⟩) 0 0) 0 [] := World.ownsRow_made w #[] 0 (Nat.le_refl _) (Nat.zero_le _) rfl
  have hb0 : Below w.heap.size w (w.alloc (.cells #[] 33)) := by go_grown
  have GV := Lib.hid (HC.out _ hb0)
  obtain ⟨f, hf⟩ : ∃ f, f = wat xs := ⟨_, rfl⟩
  obtain ⟨lt, hlt⟩ : ∃ lt, lt = gtW f := ⟨_, rfl⟩
  rw [← hf, ← hlt] at HFA
  rw [← hf] at HW HRG
  have HLT : Hid (∀ x y, lt x y = decide (f y % 2147483648 < f x % 2147483648)) := Lib.hid fun x y => by rw [hlt]; rfl
  clear hlt hf
  have hins : Hid (∀ m, insR lt 0 (List.range n) m = insR lt 0 (List.range n) m) := Lib.hid fun m => rfl
  have HEND : Hid (insR lt 0 (List.range n) (n - 1) = ordX lt id n) := Lib.hid (by
    have := insR_ordX lt (List.range n) (n - 1) (by simp; omega)
    rw [this, List.drop_of_length_le (by simp; omega), List.append_nil, Nat.sub_add_cancel h1]
    have hc : ∀ (p q : Nat → Nat) k, (∀ i, i < k → p i = q i) → ordX lt p k = ordX lt q k := by
      intro p q k
      induction k with
      | zero => intro _; rfl
      | succ k ih => intro hfg; rw [ordX, ordX, ih (fun i hi => hfg i (by omega)), hfg k (by omega)]
    exact hc _ _ _ (fun i hi => by rw [List.getElem?_eq_getElem (by simpa using hi)]; simp))
  clear hins
  go_enter Try.func48, Try.ntmps48
  go_wp2_with (at_builtin; refine wpList_append_own _ rfl _ _ 28 rfl w.heap.size 33 i0 (.float .f32 0) 1 4 Try.underlying28 hi0 hz0 hz1 hz2 rfl (by decide) _ _ _ rfl hown0 ⟨b, off, none⟩ n c (xs.map (Value.float .f32)) rfl (by rw [List.length_map, HN.out, Nat.mul_one]) GV.out (flt_oneCell xs) (by unfold maxLen; omega) (by omega) hb0.size ?_; intro v' w1 hown' hg' _)
  have hb1 : Below w.heap.size w w1 := hb0.trans (grown_below hg' hown0 (Nat.le_refl _) hb0.size)
  rw [List.nil_append, Nat.zero_add, ← HRG.out] at hown'
  obtain ⟨a1, c1, rfl⟩ := ownsRow_shape hown'
  obtain ⟨g, rfl, hgB, hgl⟩ := own_some hown' h1
  clear hg' hown0 hb0 GV
  clear HC hcm hnc
  have hmem0 : ∀ x ∈ insR lt 0 (List.range n) 0, x < n := fun x hx => List.mem_range.1 hx
  go_loopw [4] (fun i wr => ∃ k : Nat, k ≤ n - 1 ∧ i = .int .i64 ((k + 1 : Nat) : Int) ∧ wr.ownsRow w.heap.size 33 1 (.slice (some ⟨g, 0, none⟩) n c1) n (wds f (insR lt 0 (List.range n) k)) ∧ (∀ x ∈ insR lt 0 (List.range n) k, x < n) ∧ Below w.heap.size w wr) (fun i _ => n - (intOf i).toNat)
  case atStart => exact ⟨0, Nat.zero_le _, rfl, hown', hmem0, hb1⟩
  case round =>
    clear hown' hb1 hmem0
    obtain ⟨k, hk, rfl, hown, hmem, hb⟩ := hrel
    by_cases hlt : k < n - 1
    · have hkn : decide (k + 1 < n) = true := decide_eq_true (by omega)
      go_wp2
      have HG : Hid (insR lt 0 (List.range n) (k + 1) = bub lt 0 (insR lt 0 (List.range n) k) (0 + 1 + k)) := rfl
      obtain ⟨goal, hgoal⟩ : ∃ goal, goal = insR lt 0 (List.range n) (k + 1) := ⟨_, rfl⟩
      rw [← hgoal] at HG
      have HGL := Lib.hid hgoal
      have HGLN : Hid (goal.length = n) := by show _ = _; rw [hgoal, insR_length, List.length_range]
      clear hgoal hkn
      have hlen : (insR lt 0 (List.range n) k).length = n := by rw [insR_length, List.length_range]
      generalize insR lt 0 (List.range n) k = L0 at *
      go_loopw [5] (fun q wr => ∃ (j : Nat) (L : List Nat), q = .int .i64 (j : Int) ∧ j < n ∧ L.length = n ∧ wr.ownsRow w.heap.size 33 1 (.slice (some ⟨g, 0, none⟩) n c1) n (wds f L) ∧ (∀ x ∈ L, x < n) ∧ bub lt 0 L j = goal ∧ Below w.heap.size w wr) (fun q _ => (intOf q).toNat)
      case atStart => exact ⟨k + 1, L0, rfl, by omega, hlen, hown, hmem, by rw [HG.out, show 0 + 1 + k = k + 1 by omega], hb⟩
      case round =>
        clear hown hmem hb hlen HG
        obtain ⟨j, L, rfl, hj, hlen, hown, hmem, hbub, hb⟩ := hrel
        by_cases haj : 0 < j
        · obtain ⟨p, hp⟩ : ∃ p, j = p + 1 := ⟨j - 1, by omega⟩
          have k1 := hown.cellAt j (by omega)
          have k2 := hown.cellAt p (by omega)
          rw [wds_get f L _ (by omega)] at k1 k2
          have f1 := hown.frozenAt j
          have f2 := hown.frozenAt p
          have hx := getNat hmem j (by omega)
          have hy := getNat hmem p (by omega)
          have HS : Hid (wds f (swp L p) = ((wds f L).set j (.float .f32 (f (L[p]?.getD 0)))).set p (.float .f32 (f (L[j]?.getD 0)))) := by show _ = _; rw [hp]; simp [swp, List.map_set]
          have HB1 : Hid (lt (L[j]?.getD 0) (L[p]?.getD 0) = true → bub lt 0 (swp L p) p = goal) := fun h => by rw [← hbub, hp, bub, if_pos ⟨by omega, by rw [← hp]; exact h⟩]
          have HB2 : Hid (lt (L[j]?.getD 0) (L[p]?.getD 0) = false → L = goal) := fun h => by rw [← hbub, hp, bub, if_neg (fun x => by rw [← hp, h] at x; cases x.2)]
          have HST := Lib.hid (hown.stored j (.float .f32 (f (L[p]?.getD 0))))
          have HSM := Lib.hid (swp_mem hmem (j := p) (by omega))
          clear hbub
          have hord := order_ch (HW.out _ hx) (HW.out _ hy)
          have hk2 := HLT.out (L[j]?.getD 0) (L[p]?.getD 0)
          have HLEN := Lib.hid hlen
          generalize L[j]?.getD 0 = x at *
          generalize L[p]?.getD 0 = y at *
          clear hlen
          have hg1 : decide (0 < j) = true := decide_eq_true haj
          have hj1 : (j : Int) - 1 = (p : Int) := by omega
          have HP := Lib.hid hp
          have hpn : p < n := by omega
          have hjm : (j : Int) ≤ 4096 := by omega
          have hj0 : (1 : Int) ≤ (j : Int) := by omega
          clear hp
          replace hord : FloatKind.f32.format.order (f x) (f y) = some (compare (f x % 2147483648) (f y % 2147483648)) := hord
          cases hlt2 : lt x y
          · rw [hlt2] at hk2
            have hk3 := of_decide_eq_false hk2.symm
            have HE : Hid (L = goal) := HB2.out hlt2
            clear hlt2 f1 f2 hk2
            by_cases heq : f x % 2147483648 = f y % 2147483648
            all_goals
              first | rw [Nat.compare_eq_eq.2 heq] at hord | rw [Nat.compare_eq_lt.2 (by omega)] at hord
              clear heq hk3
              go_wp2
              go_quiet (fail)
              go_wp2
              go_roundw
              case rel => exact ⟨k + 1, by omega, by go_num, by rw [← HGL.out, ← HE.out]; exact own_drewN hown _, by rw [← HGL.out, ← HE.out]; exact hmem, below_drewN hb _⟩
              case measure => simp [intOf]; omega
          · rw [hlt2] at hk2
            have hk3 := of_decide_eq_true hk2.symm
            have HE : Hid (bub lt 0 (swp L p) p = goal) := HB1.out hlt2
            rw [Nat.compare_eq_gt.2 hk3] at hord
            clear hlt2 hk2 hk3
            go_wp2
            go_quiet (fail)
            go_wp2
            go_roundw
            case rel => exact ⟨p, swp L p, rfl, hpn, by rw [swp_length]; exact HLEN.out, by rw [HS.out]; exact ((own_drewN hown _).stored j _).1.stored p _ |>.1, HSM.out, HE.out, ((below_drewN hb _).setCell (by omega) _).setCell (by omega) _⟩
            case measure => simp [intOf]; omega
        · obtain rfl : j = 0 := by omega
          have HE : Hid (L = goal) := hbub
          clear hbub
          go_wp2
          go_quiet (fail)
          go_wp2
          go_roundw
          case rel => exact ⟨k + 1, by omega, by go_num, by rw [← HGL.out, ← HE.out]; exact own_drewN hown _, by rw [← HGL.out, ← HE.out]; exact hmem, below_drewN hb _⟩
          case measure => simp [intOf]; omega
    · obtain rfl : k = n - 1 := by omega
      have hkn : decide (n - 1 + 1 < n) = false := decide_eq_false (by omega)
      rw [HEND.out, HFA.out] at hown
      go_wp2
      go_ret
      exact RetSl.of (f := id) hown hb

set_option maxRecDepth 4000 in
set_option maxHeartbeats 4000000 in
theorem spec_IsMoreEven (w : World) (v : Value) (xs : List Nat) (hv : SlR w v (xs.map (Value.float .f32))) (hx : ∀ x ∈ xs, x < 4294967296) (_ : xs.length ≤ 1048576) (u : Value) (ys : List Nat) (hu : SlR w u (ys.map (Value.float .f32))) (hy : ∀ x ∈ ys, x < 4294967296) (_ : ys.length ≤ 1048576) :
    Calls Try.prog 13 #[v, u] w fun e w' => e = .returned (.tuple #[.bool (out_IsMoreEven xs ys).1, .bool (out_IsMoreEven xs ys).2]) ∧ Below w.heap.size w w' := by
  obtain ⟨a, na, ca, rfl, -, -, -, -⟩ := SlR.opened 0 hv
  obtain ⟨b, nb, cb, rfl, -, -, -, -⟩ := SlR.opened 0 hu
  have HA := Lib.hid (l02Two_any _ _ xs ys w hv hu hx hy)
  cases ht : twB xs ys
  · rw [ht] at HA
    rw [show out_IsMoreEven xs ys = (false, false) by unfold out_IsMoreEven; rw [ht]; rfl]
    clear ht hv hu
    go_enter Try.func13, Try.ntmps13
    go_wp2_with (go_at_call 47; refine HA.out.mono ?_; rintro e w' ⟨rfl, hq⟩)
    go_ret2
    exact ⟨rfl, hq.keep⟩
  · rw [ht] at HA
    obtain ⟨h1, h2, hl⟩ := twB_split ht
    obtain ⟨r1, r2, r3⟩ := rowB_one h1
    obtain ⟨s1, s2, s3⟩ := rowB_one h2
    have cx := oneB_ch r3
    have cy := oneB_ch s3
    obtain ⟨n, hn⟩ : ∃ n, n = xs.length := ⟨_, rfl⟩
    have F1 : Hid (∀ W, Below w.heap.size w W → Calls Try.prog 48 #[.slice a na ca] W (RetSl W 33 n ((falF xs).map (Value.float .f32)) id)) := Lib.hid fun W hW => l02Falling_any _ xs n hn.symm (by omega) (by omega) cx W (hv.below hW)
    have F2 : Hid (∀ W, Below w.heap.size w W → Calls Try.prog 48 #[.slice b nb cb] W (RetSl W 33 n ((falF ys).map (Value.float .f32)) id)) := Lib.hid fun W hW => l02Falling_any _ ys n (by omega) (by omega) (by omega) cy W (hu.below hW)
    have HR : Hid (out_IsMoreEven xs ys = (mevB (falF xs) (falF ys) n, true)) := Lib.hid (by unfold out_IsMoreEven; rw [ht, hn]; rfl)
    have l1 : (falF xs).length = n := by rw [falF_length, hn]
    have l2 : (falF ys).length = n := by rw [falF_length, hl, hn]
    have c1 : ∀ x ∈ falF xs, Ch x := fun x hx => cx x (falF_mem hx)
    have c2 : ∀ x ∈ falF ys, Ch x := fun x hx => cy x (falF_mem hx)
    have hn1 : 1 ≤ n := by omega
    have hn2 : n ≤ 32 := by omega
    clear ht h1 h2 hl r1 r2 r3 s1 s2 s3 cx cy hn hv hu hx hy
    generalize out_IsMoreEven xs ys = res at *
    generalize falF xs = us at *
    generalize falF ys = vs at *
    have HPS := Lib.hid (ps_step c1 c2 l1 l2)
    clear c1 c2
    go_enter Try.func13, Try.ntmps13
    go_wp2_with (first | (go_at_call 48; refine (F2.out _ hb3).mono ?_; rintro e w2 ⟨a2, k2, rfl, hO2, hb2⟩) | (go_at_call 48; refine (F1.out _ hq.keep).mono ?_; rintro e w1 ⟨a1, k1, rfl, hO1, hb1⟩; have hb3 := hq.keep.trans (hb1.mono hq.keep.size)) | (go_at_call 47; refine HA.out.mono ?_; rintro e w' ⟨rfl, hq⟩))
    have hbF : Below w.heap.size w w2 := hb3.trans (hb2.mono hb3.size)
    have hO3 := ownsRow_below hO1 hb2
    have HC1 : Hid (∀ k, k < n → ∃ g1, a1 = some ⟨g1, 0, none⟩ ∧ w2.cell? ⟨g1, k, none⟩ = some (.float .f32 (us[k]?.getD 0))) := Lib.hid fun k hk => flt_cell hO3 l1 hk
    have HC2 : Hid (∀ k, k < n → ∃ g1, a2 = some ⟨g1, 0, none⟩ ∧ w2.cell? ⟨g1, k, none⟩ = some (.float .f32 (vs[k]?.getD 0))) := Lib.hid fun k hk => flt_cell hO2 l2 hk
    clear hO1 hO2 hO3 F1 F2 hb1 hb2 hb3 hq l1 l2
    go_loopw [8, 9, 10] (fun p q i W => ∃ k : Nat, k ≤ n ∧ i = .int .i64 (k : Int) ∧ p = .float .f32 (psF us k) ∧ q = .float .f32 (psF vs k) ∧ mevB us vs k = true ∧ w2 = W) (fun _ _ i _ => n - (intOf i).toNat)
    case atStart => exact ⟨0, Nat.zero_le _, rfl, rfl, rfl, rfl, rfl⟩
    case round =>
      obtain ⟨k, hk, rfl, rfl, rfl, hm, rfl⟩ := hrel
      have HM := Lib.hid hm
      clear hm
      by_cases hkn : k < n
      · obtain ⟨g1, rfl, d1⟩ := HC1.out k hkn
        obtain ⟨g2, rfl, d2⟩ := HC2.out k hkn
        obtain ⟨p1, p2, p3, p4, p5⟩ := HPS.out k hkn
        have hord := cmp_pp p3 p5
        have HAT : Hid (mevAt us vs k = decide (fA .add .f32 (psF us k) (us[k]?.getD 0) ≤ fA .add .f32 (fA .add .f32 (psF vs k) (vs[k]?.getD 0)) 897581056)) := Lib.hid rfl
        have HXX : Hid (psF us (k + 1) = fA .add .f32 (psF us k) (us[k]?.getD 0)) := Lib.hid rfl
        have HYY : Hid (psF vs (k + 1) = fA .add .f32 (psF vs k) (vs[k]?.getD 0)) := Lib.hid rfl
        clear p3 p5
        generalize us[k]?.getD 0 = e1 at *
        generalize vs[k]?.getD 0 = e2 at *
        generalize psF us k = q1 at *
        generalize psF vs k = q2 at *
        replace hord : FloatKind.f32.format.order (fA .add .f32 q1 e1) (fA .add .f32 (fA .add .f32 q2 e2) 897581056) = some (compare (fA .add .f32 q1 e1) (fA .add .f32 (fA .add .f32 q2 e2) 897581056)) := hord
        by_cases hle : fA .add .f32 q1 e1 ≤ fA .add .f32 (fA .add .f32 q2 e2) 897581056
        · have HT : Hid (mevAt us vs k = true) := Lib.hid (by rw [HAT.out]; exact decide_eq_true hle)
          by_cases heq : fA .add .f32 q1 e1 = fA .add .f32 (fA .add .f32 q2 e2) 897581056
          all_goals
            first | rw [Nat.compare_eq_eq.2 heq] at hord | rw [Nat.compare_eq_lt.2 (by omega)] at hord
            clear heq hle
            go_wp2
            go_roundw
            case rel => exact ⟨k + 1, by omega, by go_num, by rw [HXX.out], by rw [HYY.out], by rw [mevB_succ, HM.out, HT.out]; rfl, trivial⟩
            case measure => simp [intOf]; omega
        · have HT : Hid (mevAt us vs k = false) := Lib.hid (by rw [HAT.out]; exact decide_eq_false hle)
          rw [Nat.compare_eq_gt.2 (by omega)] at hord
          have HRF : Hid (mevB us vs n = false) := Lib.hid (mevB_false hkn HT.out)
          clear hle
          go_wp2
          go_ret2
          exact ⟨by rw [HR.out, HRF.out]; rfl, hbF⟩
      · obtain rfl : k = n := by omega
        go_wp2
        go_ret2
        exact ⟨by rw [HR.out, HM.out]; rfl, hbF⟩

end Go.Proofs.Ytjobgobeiiakgaa
