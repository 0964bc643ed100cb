/- Channels that are fair: the reference. -/
import Derived.Test.YtjobgobeiiakgaaFai2
import Derived.Test.YtjobgobeiiakgaaMes
import Derived.StillTailTactics
import Derived.Deep.AppendLies
import Derived.Deep.RegionLaw
import Derived.Deep.RegionHeld3
import Derived.Deep.Cut
namespace Go.Proofs.Ytjobgobeiiakgaa
set_option linter.unusedSimpArgs false
set_option linter.unusedVariables false
open Go.RowKit
open Ieee
theorem wds_asc (xs : List Nat) : wds (wat xs) (ordX (ltW (wat xs)) id xs.length) = (ascF xs).map (Value.float .f32) := by
  unfold ascF; rw [List.map_map]; rfl
theorem ascF_mem {xs : List Nat} {x : Nat} (h : x ∈ ascF xs) : x ∈ xs := (ordX_map_perm _ xs).mem_iff.1 h

set_option maxRecDepth 10000 in
set_option maxHeartbeats 2000000 in
theorem l03Sorted_any (v : Value) (xs : List Nat) (n : Nat) (hn : xs.length = n) (h1 : 1 ≤ n) (hm : n ≤ 32) (hch : ∀ x ∈ xs, Ch x) (w : World) (hv : SlR w v (xs.map (Value.float .f32))) :
    Calls Try.prog 97 #[v] w (RetSl w 33 n ((ascF xs).map (Value.float .f32)) id) := by
  obtain ⟨a, c, rfl, hnc, hcm, hcell⟩ := hv
  rw [List.length_map, hn] at hnc ⊢
  obtain ⟨b, off, rfl, -⟩ := hcell 0 (.float .f32 (xs[0]?.getD 0)) (by rw [List.getElem?_map, List.getElem?_eq_getElem (by omega)]; rfl)
  have HC : Hid (∀ W, Below w.heap.size w W → ∀ j u, (xs.map (Value.float .f32))[j]? = some u → W.cell? ((⟨b, off, none⟩ : Addr).add j) = some u) := Lib.hid fun W hW j u hu => by
    obtain ⟨b', o', e, h⟩ := hcell j u hu
    cases e
    rw [add_at]
    exact cell_step h hW
  have HN := Lib.hid hn
  have HW : Hid (∀ i, i < n → Ch (wat xs i)) := Lib.hid fun i hi => by
    unfold wat; rw [List.getElem?_eq_getElem (by omega)]; exact hch _ (List.getElem_mem _)
  have HRG := Lib.hid (wds_range xs)
  have HFA := Lib.hid (wds_asc xs)
  rw [hn] at HRG HFA
  unfold maxLen at hcm
  clear hcell hn hch
  obtain ⟨i0, hi0, hz0, hz1, hz2⟩ := info_parts info_Float32S
  have hown0 : (w.alloc (.cells #[] 33)).ownsRow w.heap.size 33 1 (.slice (some ⟨w.heap.size, 0, none⟩) 0 0) 0 [] := World.ownsRow_made w #[] 0 (Nat.le_refl _) (Nat.zero_le _) rfl
  have hb0 : Below w.heap.size w (w.alloc (.cells #[] 33)) := by go_grown
  have GV := Lib.hid (HC.out _ hb0)
  obtain ⟨f, hf⟩ : ∃ f, f = wat xs := ⟨_, rfl⟩
  obtain ⟨lt, hlt⟩ : ∃ lt, lt = ltW f := ⟨_, rfl⟩
  rw [← hf, ← hlt] at HFA
  rw [← hf] at HW HRG
  have HLT : Hid (∀ x y, lt x y = decide (f x % 2147483648 < f y % 2147483648)) := Lib.hid fun x y => by rw [hlt]; rfl
  clear hlt hf
  have hins : Hid (∀ m, insR lt 0 (List.range n) m = insR lt 0 (List.range n) m) := Lib.hid fun m => rfl
  have HEND : Hid (insR lt 0 (List.range n) (n - 1) = ordX lt id n) := Lib.hid (by
    have := insR_ordX lt (List.range n) (n - 1) (by simp; omega)
    rw [this, List.drop_of_length_le (by simp; omega), List.append_nil, Nat.sub_add_cancel h1]
    have hc : ∀ (p q : Nat → Nat) k, (∀ i, i < k → p i = q i) → ordX lt p k = ordX lt q k := by
      intro p q k
      induction k with
      | zero => intro _; rfl
      | succ k ih => intro hfg; rw [ordX, ordX, ih (fun i hi => hfg i (by omega)), hfg k (by omega)]
    exact hc _ _ _ (fun i hi => by rw [List.getElem?_eq_getElem (by simpa using hi)]; simp))
  clear hins
  go_enter Try.func97, Try.ntmps97
  go_wp2_with (at_builtin; refine wpList_append_own _ rfl _ _ 28 rfl w.heap.size 33 i0 (.float .f32 0) 1 4 Try.underlying28 hi0 hz0 hz1 hz2 rfl (by decide) _ _ _ rfl hown0 ⟨b, off, none⟩ n c (xs.map (Value.float .f32)) rfl (by rw [List.length_map, HN.out, Nat.mul_one]) GV.out (flt_oneCell xs) (by unfold maxLen; omega) (by omega) hb0.size ?_; intro v' w1 hown' hg' _; have hb1 := hb0.trans (grown_below hg' hown0 (Nat.le_refl _) hb0.size); rw [List.nil_append, Nat.zero_add, ← HRG.out] at hown'; obtain ⟨a1, c1, rfl⟩ := ownsRow_shape hown'; obtain ⟨g, rfl, hgB, hgl⟩ := own_some hown' h1)
  clear hg' hown0 hb0 GV
  clear HC hcm hnc
  have hmem0 : ∀ x ∈ insR lt 0 (List.range n) 0, x < n := fun x hx => List.mem_range.1 hx
  go_loopw [12] (fun i wr => ∃ k : Nat, k ≤ n ∧ i = .int .i64 (k : Int) ∧ wr.ownsRow w.heap.size 33 1 (.slice (some ⟨g, 0, none⟩) n c1) n (wds f (insR lt 0 (List.range n) (k - 1))) ∧ (∀ x ∈ insR lt 0 (List.range n) (k - 1), x < n) ∧ Below w.heap.size w wr) (fun i _ => n - (intOf i).toNat)
  case atStart => exact ⟨0, Nat.zero_le _, rfl, hown', hmem0, hb1⟩
  case round =>
    clear hown' hb1 hmem0
    obtain ⟨k, hk, rfl, hown, hmem, hb⟩ := hrel
    by_cases hlt : k < n
    · go_wp2_with fail
      have HG : Hid (insR lt 0 (List.range n) (k + 1 - 1) = bub lt 0 (insR lt 0 (List.range n) (k - 1)) k) := insR_at lt n k
      obtain ⟨goal, hgoal⟩ : ∃ goal, goal = insR lt 0 (List.range n) (k + 1 - 1) := ⟨_, rfl⟩
      rw [← hgoal] at HG
      have HGL := Lib.hid hgoal
      have HGLN : Hid (goal.length = n) := by show _ = _; rw [hgoal, insR_length, List.length_range]
      clear hgoal
      have hlen : (insR lt 0 (List.range n) (k - 1)).length = n := by rw [insR_length, List.length_range]
      generalize insR lt 0 (List.range n) (k - 1) = L0 at *
      go_loopw [5] (fun q wr => ∃ (j : Nat) (L : List Nat), q = .int .i64 (j : Int) ∧ j < n ∧ L.length = n ∧ wr.ownsRow w.heap.size 33 1 (.slice (some ⟨g, 0, none⟩) n c1) n (wds f L) ∧ (∀ x ∈ L, x < n) ∧ bub lt 0 L j = goal ∧ Below w.heap.size w wr) (fun q _ => (intOf q).toNat)
      case atStart => exact ⟨k, L0, rfl, by omega, hlen, hown, hmem, HG.out.symm, hb⟩
      case round =>
        clear hown hmem hb hlen HG
        obtain ⟨j, L, rfl, hj, hlen, hown, hmem, hbub, hb⟩ := hrel
        by_cases haj : 0 < j
        · obtain ⟨p, hp⟩ : ∃ p, j = p + 1 := ⟨j - 1, by omega⟩
          have k1 := hown.cellAt j (by omega)
          have k2 := hown.cellAt p (by omega)
          rw [wds_get f L _ (by omega)] at k1 k2
          have f1 := hown.frozenAt j
          have f2 := hown.frozenAt p
          have hx := getNat hmem j (by omega)
          have hy := getNat hmem p (by omega)
          have HS : Hid (wds f (swp L p) = ((wds f L).set j (.float .f32 (f (L[p]?.getD 0)))).set p (.float .f32 (f (L[j]?.getD 0)))) := by show _ = _; rw [hp]; simp [swp, List.map_set]
          have HB1 : Hid (lt (L[j]?.getD 0) (L[p]?.getD 0) = true → bub lt 0 (swp L p) p = goal) := fun h => by rw [← hbub, hp, bub, if_pos ⟨by omega, by rw [← hp]; exact h⟩]
          have HB2 : Hid (lt (L[j]?.getD 0) (L[p]?.getD 0) = false → L = goal) := fun h => by rw [← hbub, hp, bub, if_neg (fun x => by rw [← hp, h] at x; cases x.2)]
          have HST := Lib.hid (hown.stored j (.float .f32 (f (L[p]?.getD 0))))
          have HSM := Lib.hid (swp_mem hmem (j := p) (by omega))
          clear hbub
          have hord := order_ch (HW.out _ hx) (HW.out _ hy)
          have hk2 := HLT.out (L[j]?.getD 0) (L[p]?.getD 0)
          have HLEN := Lib.hid hlen
          generalize L[j]?.getD 0 = x at *
          generalize L[p]?.getD 0 = y at *
          clear hlen
          have hg1 : decide (0 < j) = true := decide_eq_true haj
          have hj1 : (j : Int) - 1 = (p : Int) := by omega
          have HP := Lib.hid hp
          have hpn : p < n := by omega
          have hjm : (j : Int) ≤ 4096 := by omega
          have hj0 : (1 : Int) ≤ (j : Int) := by omega
          clear hp
          replace hord : FloatKind.f32.format.order (f x) (f y) = some (compare (f x % 2147483648) (f y % 2147483648)) := hord
          cases hlt2 : lt x y
          · rw [hlt2] at hk2
            have hk3 := of_decide_eq_false hk2.symm
            have HE : Hid (L = goal) := HB2.out hlt2
            clear hlt2 f1 f2 hk2
            by_cases heq : f x % 2147483648 = f y % 2147483648
            all_goals
              first | rw [Nat.compare_eq_eq.2 heq] at hord | rw [Nat.compare_eq_gt.2 (by omega)] at hord
              clear heq hk3
              go_wp2
              go_quiet (fail)
              go_wp2
              go_roundw
              case rel => exact ⟨k + 1, by omega, by go_num, by rw [← HGL.out, ← HE.out]; exact own_drewN hown _, by rw [← HGL.out, ← HE.out]; exact hmem, below_drewN hb _⟩
              case measure => simp [intOf]; omega
          · rw [hlt2] at hk2
            have hk3 := of_decide_eq_true hk2.symm
            have HE : Hid (bub lt 0 (swp L p) p = goal) := HB1.out hlt2
            rw [Nat.compare_eq_lt.2 hk3] at hord
            clear hlt2 hk2 hk3
            go_wp2
            go_quiet (fail)
            go_wp2
            go_roundw
            case rel => exact ⟨p, swp L p, rfl, hpn, by rw [swp_length]; exact HLEN.out, by rw [HS.out]; exact ((own_drewN hown _).stored j _).1.stored p _ |>.1, HSM.out, HE.out, ((below_drewN hb _).setCell (by omega) _).setCell (by omega) _⟩
            case measure => simp [intOf]; omega
        · obtain rfl : j = 0 := by omega
          have HE : Hid (L = goal) := hbub
          clear hbub
          go_wp2
          go_quiet (fail)
          go_wp2
          go_roundw
          case rel => exact ⟨k + 1, by omega, by go_num, by rw [← HGL.out, ← HE.out]; exact own_drewN hown _, by rw [← HGL.out, ← HE.out]; exact hmem, below_drewN hb _⟩
          case measure => simp [intOf]; omega
    · obtain rfl : k = n := by omega
      rw [HEND.out, HFA.out] at hown
      go_wp2
      go_ret
      exact RetSl.of (f := id) hown hb

set_option maxRecDepth 4000 in
set_option maxHeartbeats 2000000 in
theorem l03Alike_any (v u : Value) (xs ys : List Nat) (n : Nat) (hxn : xs.length = n) (hyn : ys.length = n) (hn : 1 ≤ n) (hm : n ≤ 32) (c1 : ∀ x ∈ xs, Ch x) (c2 : ∀ x ∈ ys, Ch x) (w : World) (hv : SlR w v (xs.map (Value.float .f32))) (hu : SlR w u (ys.map (Value.float .f32))) :
    Calls Try.prog 61 #[v, u] w fun e w' => e = .returned (.bool (alk xs ys)) ∧ Below w.heap.size w w' := by
  have HS1 := Lib.hid (l03Sorted_any v xs n hxn hn hm c1 w hv)
  have HS2 : Hid (∀ W, Below w.heap.size w W → Calls Try.prog 97 #[u] W (RetSl W 33 n ((ascF ys).map (Value.float .f32)) id)) := Lib.hid fun W hW => l03Sorted_any u ys n hyn hn hm c2 W (hu.below hW)
  have h1 : (ascF xs).length = n := by rw [ascF_length, hxn]
  have h2 : (ascF ys).length = n := by rw [ascF_length, hyn]
  have e1 : ∀ x ∈ ascF xs, Ch x := fun x hx => c1 x (ascF_mem hx)
  have e2 : ∀ x ∈ ascF ys, Ch x := fun x hx => c2 x (ascF_mem hx)
  rw [alk_asc]
  generalize ascF xs = us at *
  generalize ascF ys = vs at *
  have HO : Hid (∀ k, k < n → (abW (us[k]?.getD 0) = abW (vs[k]?.getD 0) ∧ FloatKind.f32.format.order (us[k]?.getD 0) (vs[k]?.getD 0) = some .eq) ∨ (abW (us[k]?.getD 0) ≠ abW (vs[k]?.getD 0) ∧ FloatKind.f32.format.order (us[k]?.getD 0) (vs[k]?.getD 0) = some .lt) ∨ (abW (us[k]?.getD 0) ≠ abW (vs[k]?.getD 0) ∧ FloatKind.f32.format.order (us[k]?.getD 0) (vs[k]?.getD 0) = some .gt)) := Lib.hid fun k hk =>
    ord_abW (by rw [List.getElem?_eq_getElem (by omega)]; exact e1 _ (List.getElem_mem _)) (by rw [List.getElem?_eq_getElem (by omega)]; exact e2 _ (List.getElem_mem _))
  have HNO : Hid (∀ k, k < n → abW (us[k]?.getD 0) ≠ abW (vs[k]?.getD 0) → decide (us.map abW = vs.map abW) = false) := Lib.hid fun k hk h => decide_eq_false (map_ne (by omega) (by omega) h)
  have HYE : Hid ((∀ k, k < n → abW (us[k]?.getD 0) = abW (vs[k]?.getD 0)) → decide (us.map abW = vs.map abW) = true) := Lib.hid fun h => decide_eq_true (map_eq_of h1 h2 h)
  have HL1 := Lib.hid h1
  have HL2 := Lib.hid h2
  generalize decide (us.map abW = vs.map abW) = r at *
  clear hv hu hxn hyn c1 c2 e1 e2 h1 h2
  go_enter Try.func61, Try.ntmps61
  go_upto_region 4 with (first
    | (go_at_call 97; refine (HS2.out _ hb1).mono ?_; rintro e w2 ⟨a2, k2, rfl, hO2, hb2⟩)
    | (go_at_call 97; refine HS1.out.mono ?_; rintro e w1 ⟨a1, k1, rfl, hO1, hb1⟩))
  have hO1' := (SlR.own hO1).below hb2
  replace hO2 := SlR.own hO2
  obtain ⟨b, off, c, he1, hnc, hcm, hcell⟩ := sl_cells hO1' HL1.out hn
  simp only [id, Value.slice.injEq] at he1
  obtain ⟨rfl, -, rfl⟩ := he1
  obtain ⟨b', off', c', he2, hnc', hcm', hcell'⟩ := sl_cells hO2 HL2.out hn
  simp only [id, Value.slice.injEq] at he2
  obtain ⟨rfl, -, rfl⟩ := he2
  have HA := Lib.hid hcell
  have HB := Lib.hid hcell'
  have hbb := hb1.trans (hb2.mono hb1.size)
  unfold maxLen at hcm hcm'
  clear hcell hcell' hO1 hO1' hO2 hb1 hb2
  go_wp2
  go_loopw [14] (fun i wr => ∃ k : Nat, k ≤ n ∧ i = .int .i64 (k : Int) ∧ Hid (∀ j, j < k → abW (us[j]?.getD 0) = abW (vs[j]?.getD 0)) ∧ Qu w2 wr) (fun i _ => n - (intOf i).toNat)
  case atStart => exact ⟨0, Nat.zero_le _, rfl, Lib.hid (fun j h => by omega), Qu.refl _⟩
  case round =>
    obtain ⟨k, hk, rfl, hall, hq⟩ := hrel
    by_cases hlt : k < n
    · have d1 := HA.out wr hq.keep k hlt
      have d2 := HB.out wr hq.keep k hlt
      have ho := HO.out k hlt
      have hno := HNO.out k hlt
      have HAL : Hid (abW (us[k]?.getD 0) = abW (vs[k]?.getD 0) → ∀ j, j < k + 1 → abW (us[j]?.getD 0) = abW (vs[j]?.getD 0)) := Lib.hid fun h j hj => by
        by_cases e : j = k
        · rw [e]; exact h
        · exact hall.out j (by omega)
      generalize us[k]?.getD 0 = x at *
      generalize vs[k]?.getD 0 = y at *
      rcases ho with ⟨h1, ho⟩ | ⟨h1, ho⟩ | ⟨h1, ho⟩
      · have HAL2 := Lib.hid (HAL.out h1)
        clear hno HAL h1
        go_wp2
        go_quiet (fail)
        go_wp2
        go_roundw
        case rel => exact ⟨k + 1, by omega, by go_num, HAL2, hq.drewN _⟩
        case measure => simp [intOf]; omega
      · have HR := Lib.hid (hno h1)
        clear hno HAL h1
        go_wp2
        go_quiet (fail)
        go_wp2
        go_ret
        exact ⟨ret_bool HR.out.symm, hbb.trans ((hq.drewN _).keep.mono hbb.size)⟩
      · have HR := Lib.hid (hno h1)
        clear hno HAL h1
        go_wp2
        go_quiet (fail)
        go_wp2
        go_ret
        exact ⟨ret_bool HR.out.symm, hbb.trans ((hq.drewN _).keep.mono hbb.size)⟩
    · obtain rfl : k = n := by omega
      have HR := Lib.hid (HYE.out hall.out)
      go_wp2
      go_ret
      exact ⟨ret_bool HR.out.symm, hbb.trans (hq.keep.mono hbb.size)⟩

set_option maxRecDepth 4000 in
set_option maxHeartbeats 2000000 in
theorem l03Column_any (g a m k : Nat) (v : Value) (xs : List Nat) (w : World) (hg0 : w.cell? ⟨g, 0, none⟩ = some (.int .i64 (a : Int))) (hg1 : w.cell? ⟨g, 1, none⟩ = some (.int .i64 (m : Int))) (hg2 : w.cell? ⟨g, 2, none⟩ = some v) (hv : SlR w v (xs.map (Value.float .f32))) (a1 : 1 ≤ a) (a2 : a ≤ 8) (m2 : m ≤ 8) (hk : k < m) (hl : xs.length = a * m) :
    Calls Try.prog 63 #[.pointer (some ⟨g, 0, none⟩), .int .i64 (k : Int)] w (RetSl w 33 a ((colOf xs m k a).map (Value.float .f32)) id) := by
  have hn1 : 1 ≤ xs.length := by rw [hl]; exact Nat.mul_pos a1 (by omega)
  obtain ⟨b, off, c, rfl, hnc, hcm, hcell⟩ := sl_cells hv rfl hn1
  have HA := Lib.hid hcell
  have HG : Hid (∀ W, Below w.heap.size w W → W.cell? ⟨g, 0, none⟩ = some (.int .i64 (a : Int)) ∧ W.cell? ⟨g, 1, none⟩ = some (.int .i64 (m : Int)) ∧ W.cell? ⟨g, 2, none⟩ = some (.slice (some ⟨b, off, none⟩) xs.length c)) := Lib.hid fun W hW => ⟨cell_step hg0 hW, cell_step hg1 hW, cell_step hg2 hW⟩
  have HP : Hid (∀ q, q < a → q * m + k < xs.length) := Lib.hid fun q hq => by
    have := row_le (m := m) hq
    rw [Nat.add_mul, Nat.one_mul] at this
    omega
  have hn64 : xs.length ≤ 64 := by rw [hl]; exact prod_le a2 m2
  unfold maxLen at hcm
  obtain ⟨i0, hi0, hz00, hz01, hz02⟩ := info_parts info_Float32S
  have hown0 : (w.alloc (.cells #[] 33)).ownsRow w.heap.size 33 1 (.slice (some ⟨w.heap.size, 0, none⟩) 0 0) 0 [] := World.ownsRow_made w #[] 0 (Nat.le_refl _) (Nat.zero_le _) rfl
  have hb0 : Below w.heap.size w (w.alloc (.cells #[] 33)) := by go_grown
  have hmm : Hid (∀ q, q < a → q * m ≤ 64) := Lib.hid fun q hq => by have := HP.out q hq; omega
  clear hcell hg0 hg1 hg2 hv hl hn1
  generalize xs.length = n at *
  go_enter Try.func63, Try.ntmps63
  go_wp2
  go_loopw [5, 6] (fun v i wr => ∃ q : Nat, q ≤ a ∧ i = .int .i64 (q : Int) ∧ wr.ownsRow w.heap.size 33 1 v q ((colOf xs m k q).map (Value.float .f32)) ∧ Below w.heap.size w wr) (fun _ i _ => a - (intOf i).toNat)
  case atStart => exact ⟨0, Nat.zero_le _, rfl, hown0, hb0⟩
  case round =>
    clear hown0 hb0
    obtain ⟨q, hq, rfl, hown, hb⟩ := hrel
    obtain ⟨c0, c1, c2⟩ := HG.out wr hb
    by_cases hlt : q < a
    · have hbD : Below w.heap.size w wr.drew := Below.drew hb
      have hownD := ownsRow_below hown ((Qu.refl wr).drew).keep
      obtain ⟨f0, f1, f2⟩ := HG.out wr.drew hbD
      have hpk := HP.out q hlt
      have hp64 := hmm.out q hlt
      have hcl := colOf_succ xs m k q
      obtain ⟨p, hp⟩ : ∃ p, p = q * m := ⟨_, rfl⟩
      rw [← hp] at hpk hp64 hcl
      have d := HA.out wr.drew hbD (p + k) hpk
      have e1 : (q : Int) * (m : Int) = (p : Int) := by rw [hp]; simp
      have e2 : IntKind.i64.wrap ((q : Int) * (m : Int)) = (p : Int) := by rw [e1]; exact IntWalk.i64_in _ (by omega)
      have e3 : IntKind.i64.wrap ((p : Int) + (k : Int)) = (p : Int) + (k : Int) := IntWalk.i64_in _ (by omega)
      have e4 : ((p : Int) + (k : Int)).toNat = p + k := by omega
      have e7 : IntKind.i64.wrap (p : Int) = (p : Int) := IntWalk.i64_in _ (by omega)
      have e5 : (p : Int) + (k : Int) < (n : Int) := by omega
      have e6 : (0 : Int) ≤ (p : Int) + (k : Int) := by omega
      have HCL := Lib.hid hcl
      generalize xs[p + k]?.getD 0 = x at *
      have HOWN : Hid ((wr.alloc (.cells #[.float .f32 x] 33)).drew.ownsRow w.heap.size 33 1 u5 q ((colOf xs m k q).map (Value.float .f32))) := Lib.hid (hown.alloc (.cells #[.float .f32 x] 33))
      have HNEW : Hid (∀ j u, [Value.float .f32 x][j]? = some u → (wr.alloc (.cells #[.float .f32 x] 33)).drew.cell? ((⟨wr.heap.size, 0, none⟩ : Addr).add j) = some u) := Lib.hid (cell_one_new _ _ _)
      have HBA : Hid (Below w.heap.size w (wr.alloc (.cells #[.float .f32 x] 33)).drew) := Lib.hid (Below.drew (hb.alloc hb.size _))
      clear hp hcl hown hb hownD
      go_wp2_with fail
      have X := fun (ops : Array Oper) (o : Oper) (a : Act) (K : Act → World → Prop) (Q : Exit → Act → World → Prop) (E : Prop) h1 h2 h3 h4 h6 => step_append_lies (P := Try.prog) (ops := ops) (o := o) (a := a) (K := K) (Q := Q) (E := E) (wr.alloc (.cells #[.float .f32 x] 33)).drew h1 (.tmp 16) (.tmp 31) 28 h2 w.heap.size 33 i0 (.float .f32 0) 1 4 Try.underlying28 hi0 hz00 hz01 hz02 rfl (by omega) u5 q _ h3 HOWN.out ⟨wr.heap.size, 0, none⟩ 1 1 [.float .f32 x] h4 rfl HNEW.out (one_oneCell rfl) (by omega) (by unfold maxLen; omega) (by omega) HBA.out.size (wr.heap.size + 1) (by show (wr.alloc _).heap.size = _; rw [World.size_alloc]) h6
      go_region_law ((refine X _ _ _ _ _ _ rfl rfl rfl rfl ?_; intro g2 c2' w1 hown1 hg1 hat2 hlt2))
      all_goals
        have hb1 := HBA.out.trans (grown_below (⟨hg1.1, hg1.2, hg1.3, hg1.4, hg1.5⟩ : (wr.alloc (.cells #[.float .f32 x] 33)).drew.grownBy w1 u5.ownBlock) HOWN.out (Nat.le_refl _) HBA.out.size)
        rw [show (colOf xs m k q).map (Value.float .f32) ++ [Value.float .f32 x] = (colOf xs m k (q + 1)).map (Value.float .f32) by rw [HCL.out, List.map_append]; rfl] at hown1
        clear X hg1
        go_wp2
        go_roundw
        case rel => exact ⟨q + 1, by omega, by go_num, hown1, hb1⟩
        case measure => simp [intOf]; omega
    · obtain rfl : q = a := by omega
      go_wp2
      go_ret
      exact RetSl.of (f := id) hown hb

set_option maxRecDepth 4000 in
set_option maxHeartbeats 4000000 in
theorem spec_IsFair (w : World) (i j : Int) (hi : I64 i) (hj : I64 j) (v : Value) (xs : List Nat) (hv : SlR w v (xs.map (Value.float .f32))) (hx : ∀ x ∈ xs, x < 4294967296) (_ : xs.length ≤ 1048576) :
    Calls Try.prog 21 #[.agg #[.int .i64 i, .int .i64 j, v]] w fun e w' => e = .returned (.tuple #[.bool (out_IsFair i j xs).1, .bool (out_IsFair i j xs).2]) ∧ Below w.heap.size w w' := by
  obtain ⟨ad, n, c, rfl, -⟩ := SlR.opened 0 hv
  have K0 : Hid (∀ W, Below (w.alloc (.cells #[.int .i64 i, .int .i64 j, .slice ad n c] 43)).heap.size (w.alloc (.cells #[.int .i64 i, .int .i64 j, .slice ad n c] 43)) W → (W.cell? ⟨w.heap.size, 0, none⟩ = some (.int .i64 i) ∧ W.cell? ⟨w.heap.size, 1, none⟩ = some (.int .i64 j) ∧ W.cell? ⟨w.heap.size, 2, none⟩ = some (.slice ad n c)) ∧ Below w.heap.size w W) := Lib.hid fun W hW => by
    have hb0 : Below w.heap.size w (w.alloc (.cells #[.int .i64 i, .int .i64 j, .slice ad n c] 43)) := by go_grown
    refine ⟨⟨cell_step ?_ hW, cell_step ?_ hW, cell_step ?_ hW⟩, hb0.trans (hW.mono (by simp))⟩ <;> go_cell
  obtain ⟨w0, hw0⟩ : ∃ w0, w0 = w.alloc (.cells #[.int .i64 i, .int .i64 j, .slice ad n c] 43) := ⟨_, rfl⟩
  rw [← hw0] at K0
  have HIS : Hid (Calls Try.prog 60 #[.pointer (some ⟨w.heap.size, 0, none⟩)] w0 fun e w' => e = .returned (.bool (validCh i j xs)) ∧ Qu w0 w') := Lib.hid (by
    obtain ⟨⟨e0, e1, e2⟩, hb⟩ := K0.out w0 (Below.refl _ _)
    exact l03Is_any _ i j _ xs w0 e0 e1 e2 (hv.below hb) hx)
  cases hd : validCh i j xs
  · rw [show out_IsFair i j xs = (false, false) by unfold out_IsFair; rw [hd]; rfl]
    rw [hd] at HIS
    subst hw0
    clear hd
    go_enter Try.func21, Try.ntmps21
    go_wp2_with (go_at_call 60; refine HIS.out.mono ?_; rintro e w1 ⟨rfl, hq1⟩)
    go_ret2
    exact ⟨rfl, (K0.out _ hq1.keep).2⟩
  · obtain ⟨a, m, rfl, rfl, a1, a2, m1, m2, hl, hrow⟩ := validCh_nat hd
    rw [hd] at HIS
    have hch := rows_ch hl m1 hrow
    obtain ⟨r1, hr1⟩ : ∃ r, r = alAll (fun k => rowOf xs m k) a := ⟨_, rfl⟩
    obtain ⟨r2, hr2⟩ : ∃ r, r = alAll (fun k => colOf xs m k a) m := ⟨_, rfl⟩
    rw [show out_IsFair a m xs = (r1 && r2, true) by unfold out_IsFair; rw [hd, hr1, hr2]; rfl]
    have HRW : Hid (∀ W, Below w0.heap.size w0 W → ∀ k, k < a → Calls Try.prog 62 #[.pointer (some ⟨w.heap.size, 0, none⟩), .int .i64 (k : Int)] W fun e w' => ∃ u, e = .returned u ∧ SlR w' u ((rowOf xs m k).map (Value.float .f32)) ∧ Below W.heap.size W w') := Lib.hid fun W hW k hk => by
      obtain ⟨⟨e0, e1, e2⟩, hb⟩ := K0.out W hW
      refine (l03Row_any _ m k _ xs W e1 e2 (hv.below hb) m1 (by omega) (by omega) (by rw [hl]; exact row_le hk)).mono ?_
      rintro e w' ⟨⟨a', c', rfl, h⟩, hq⟩
      exact ⟨_, rfl, h _ ((hv.below hb).below hq.keep), hq.keep⟩
    have HCL : Hid (∀ W, Below w0.heap.size w0 W → ∀ k, k < m → Calls Try.prog 63 #[.pointer (some ⟨w.heap.size, 0, none⟩), .int .i64 (k : Int)] W fun e w' => ∃ u, e = .returned u ∧ SlR w' u ((colOf xs m k a).map (Value.float .f32)) ∧ Below W.heap.size W w') := Lib.hid fun W hW k hk => by
      obtain ⟨⟨e0, e1, e2⟩, hb⟩ := K0.out W hW
      refine (l03Column_any _ a m k _ xs W e0 e1 e2 (hv.below hb) a1 a2 m2 hk hl).mono ?_
      rintro e w' ⟨a', c', rfl, hO, hb2⟩
      exact ⟨_, rfl, SlR.own hO, hb2⟩
    have HAR : Hid (∀ W u1 u2 k, k < a → SlR W u1 ((rowOf xs m 0).map (Value.float .f32)) → SlR W u2 ((rowOf xs m k).map (Value.float .f32)) → Calls Try.prog 61 #[u1, u2] W fun e w' => e = .returned (.bool (alk (rowOf xs m 0) (rowOf xs m k))) ∧ Below W.heap.size W w') := Lib.hid fun W u1 u2 k hk h1 h2 =>
      l03Alike_any u1 u2 _ _ m (rowOf_length (by rw [hl]; exact row_le (by omega))) (rowOf_length (by rw [hl]; exact row_le hk)) m1 (by omega) (fun x hx => hch x (rowOf_mem hx)) (fun x hx => hch x (rowOf_mem hx)) W h1 h2
    have HAC : Hid (∀ W u1 u2 k, k < m → SlR W u1 ((colOf xs m 0 a).map (Value.float .f32)) → SlR W u2 ((colOf xs m k a).map (Value.float .f32)) → Calls Try.prog 61 #[u1, u2] W fun e w' => e = .returned (.bool (alk (colOf xs m 0 a) (colOf xs m k a))) ∧ Below W.heap.size W w') := Lib.hid fun W u1 u2 k hk h1 h2 =>
      l03Alike_any u1 u2 _ _ a (colOf_length _ _ _ _) (colOf_length _ _ _ _) a1 (by omega) (fun x hx => hch x (colOf_mem (by omega) (by omega) hx)) (fun x hx => hch x (colOf_mem (by omega) hk hx)) W h1 h2
    have HNO1 : Hid (∀ k, k < a → alk (rowOf xs m 0) (rowOf xs m k) = false → r1 = false) := Lib.hid fun k hk h => by rw [hr1]; exact alAll_no hk h
    have HYE1 : Hid ((∀ k, k < a → alk (rowOf xs m 0) (rowOf xs m k) = true) → r1 = true) := Lib.hid fun h => by rw [hr1]; exact alAll_yes h
    have HNO2 : Hid (∀ k, k < m → alk (colOf xs m 0 a) (colOf xs m k a) = false → r2 = false) := Lib.hid fun k hk h => by rw [hr2]; exact alAll_no (f := fun k => colOf xs m k a) hk h
    have HYE2 : Hid ((∀ k, k < m → alk (colOf xs m 0 a) (colOf xs m k a) = true) → r2 = true) := Lib.hid fun h => by rw [hr2]; exact alAll_yes (f := fun k => colOf xs m k a) h
    have HS1 : Hid (alk (rowOf xs m 0) (rowOf xs m 0) = true) := Lib.hid (alk_self _)
    have HS2 : Hid (alk (colOf xs m 0 a) (colOf xs m 0 a) = true) := Lib.hid (alk_self _)
    subst hw0
    clear hd hl hrow hch hr1 hr2 hx hv
    have ha0 : 0 < a := a1
    have hm0 : 0 < m := m1
    go_enter Try.func21, Try.ntmps21
    go_wp2_with (go_at_call 60; refine HIS.out.mono ?_; rintro e w1 ⟨rfl, hq1⟩)
    have hbb := hq1.keep
    clear hq1 HIS
    generalize rowOf xs m = rw0 at *
    obtain ⟨cl0, hcl0⟩ : ∃ cl0 : Nat → List Nat, cl0 = fun k => colOf xs m k a := ⟨_, rfl⟩
    have hce : ∀ k, colOf xs m k a = cl0 k := fun k => by rw [hcl0]
    simp only [hce] at *
    clear hcl0 hce
    go_loopw [4] (fun i wr => ∃ k : Nat, 1 ≤ k ∧ k ≤ a ∧ i = .int .i64 (k : Int) ∧ Hid (∀ j, j < k → alk (rw0 0) (rw0 j) = true) ∧ Below (w.alloc (.cells #[.int .i64 (a : Int), .int .i64 (m : Int), .slice ad n c] 43)).heap.size (w.alloc (.cells #[.int .i64 (a : Int), .int .i64 (m : Int), .slice ad n c] 43)) wr) (fun i _ => a - (intOf i).toNat)
    case atStart => exact ⟨1, Nat.le_refl _, a1, rfl, Lib.hid (fun j h => by rw [show j = 0 by omega]; exact HS1.out), hbb⟩
    case round =>
      clear hbb
      obtain ⟨k, hk1, hk, rfl, hall, hb⟩ := hrel
      obtain ⟨⟨e0, e1, e2⟩, hbw⟩ := K0.out wr hb
      by_cases hlt : k < a
      · have HR0 := Lib.hid (HRW.out wr hb 0 ha0)
        have HRK : Hid (∀ W, Below wr.heap.size wr W → Calls Try.prog 62 #[.pointer (some ⟨w.heap.size, 0, none⟩), .int .i64 (k : Int)] W fun e w' => ∃ u, e = .returned u ∧ SlR w' u ((rw0 k).map (Value.float .f32)) ∧ Below W.heap.size W w') := Lib.hid fun W hW => HRW.out W (hb.trans (hW.mono hb.size)) k hlt
        have HEK : Hid (∀ W u1 u2, SlR W u1 ((rw0 0).map (Value.float .f32)) → SlR W u2 ((rw0 k).map (Value.float .f32)) → Calls Try.prog 61 #[u1, u2] W fun e w' => e = .returned (.bool (alk (rw0 0) (rw0 k))) ∧ Below W.heap.size W w') := Lib.hid fun W u1 u2 h1 h2 => HAR.out W u1 u2 k hlt h1 h2
        have HAL : Hid (alk (rw0 0) (rw0 k) = true → ∀ j, j < k + 1 → alk (rw0 0) (rw0 j) = true) := Lib.hid fun h j hj => by
          by_cases e : j = k
          · rw [e]; exact h
          · exact hall.out j (by omega)
        have hno := HNO1.out k hlt
        generalize alk (rw0 0) (rw0 k) = z at *
        cases z
        · have HRR := Lib.hid (hno rfl)
          clear hno HAL
          go_wp2_with (first
            | (go_at_call 61; refine (HEK.out _ _ _ (hs4.below hb5') hs5).mono ?_; rintro e w6 ⟨rfl, hb6⟩)
            | (go_at_call 62; refine (HRK.out _ hb4).mono ?_; rintro e w5 ⟨u5, rfl, hs5, hb5'⟩; have hb5 := hb4.trans (hb5'.mono hb4.size))
            | (go_at_call 62; refine HR0.out.mono ?_; rintro e w4 ⟨u4, rfl, hs4, hb4⟩))
          go_ret2
          have hb6' := hb5.trans (hb6.mono hb5.size)
          exact ⟨by rw [HRR.out]; rfl, hbw.trans (hb6'.mono hbw.size)⟩
        · have HAL2 := Lib.hid (HAL.out rfl)
          clear hno HAL
          go_wp2_with (first
            | (go_at_call 61; refine (HEK.out _ _ _ (hs4.below hb5') hs5).mono ?_; rintro e w6 ⟨rfl, hb6⟩)
            | (go_at_call 62; refine (HRK.out _ hb4).mono ?_; rintro e w5 ⟨u5, rfl, hs5, hb5'⟩; have hb5 := hb4.trans (hb5'.mono hb4.size))
            | (go_at_call 62; refine HR0.out.mono ?_; rintro e w4 ⟨u4, rfl, hs4, hb4⟩; obtain ⟨⟨f0, f1, f2⟩, -⟩ := K0.out _ (hb.trans (hb4.mono hb.size))))
          have hb6' := hb5.trans (hb6.mono hb5.size)
          have hb7 := hb.trans (hb6'.mono hb.size)
          go_roundw
          case rel => exact ⟨k + 1, by omega, by omega, by go_num, HAL2, hb7⟩
          case measure => simp [intOf]; omega
      · obtain rfl : k = a := by omega
        have HR1 := Lib.hid (HYE1.out hall.out)
        clear HNO1 HYE1 hall HRW HAR HS1 hbw
        go_wp2_with fail
        go_loopw [5] (fun i wr => ∃ p : Nat, 1 ≤ p ∧ p ≤ m ∧ i = .int .i64 (p : Int) ∧ Hid (∀ j, j < p → alk (cl0 0) (cl0 j) = true) ∧ Below (w.alloc (.cells #[.int .i64 (k : Int), .int .i64 (m : Int), .slice ad n c] 43)).heap.size (w.alloc (.cells #[.int .i64 (k : Int), .int .i64 (m : Int), .slice ad n c] 43)) wr) (fun i _ => m - (intOf i).toNat)
        case atStart => exact ⟨1, Nat.le_refl _, m1, rfl, Lib.hid (fun j h => by rw [show j = 0 by omega]; exact HS2.out), hb⟩
        case round =>
          clear hb e0 e1 e2
          obtain ⟨p, hp1, hp, rfl, hall, hb⟩ := hrel
          obtain ⟨⟨e0, e1, e2⟩, hbw⟩ := K0.out wr hb
          by_cases hlt2 : p < m
          · have HR0 := Lib.hid (HCL.out wr hb 0 hm0)
            have HRK : Hid (∀ W, Below wr.heap.size wr W → Calls Try.prog 63 #[.pointer (some ⟨w.heap.size, 0, none⟩), .int .i64 (p : Int)] W fun e w' => ∃ u, e = .returned u ∧ SlR w' u ((cl0 p).map (Value.float .f32)) ∧ Below W.heap.size W w') := Lib.hid fun W hW => HCL.out W (hb.trans (hW.mono hb.size)) p hlt2
            have HEK : Hid (∀ W u1 u2, SlR W u1 ((cl0 0).map (Value.float .f32)) → SlR W u2 ((cl0 p).map (Value.float .f32)) → Calls Try.prog 61 #[u1, u2] W fun e w' => e = .returned (.bool (alk (cl0 0) (cl0 p))) ∧ Below W.heap.size W w') := Lib.hid fun W u1 u2 h1 h2 => HAC.out W u1 u2 p hlt2 h1 h2
            have HAL : Hid (alk (cl0 0) (cl0 p) = true → ∀ j, j < p + 1 → alk (cl0 0) (cl0 j) = true) := Lib.hid fun h j hj => by
              by_cases e : j = p
              · rw [e]; exact h
              · exact hall.out j (by omega)
            have hno := HNO2.out p hlt2
            generalize alk (cl0 0) (cl0 p) = z at *
            cases z
            · have HRR := Lib.hid (hno rfl)
              clear hno HAL
              go_wp2_with (first
                | (go_at_call 61; refine (HEK.out _ _ _ (hs4.below hb5') hs5).mono ?_; rintro e w6 ⟨rfl, hb6⟩)
                | (go_at_call 63; refine (HRK.out _ hb4).mono ?_; rintro e w5 ⟨u5, rfl, hs5, hb5'⟩; have hb5 := hb4.trans (hb5'.mono hb4.size))
                | (go_at_call 63; refine HR0.out.mono ?_; rintro e w4 ⟨u4, rfl, hs4, hb4⟩))
              go_ret2
              have hb6' := hb5.trans (hb6.mono hb5.size)
              exact ⟨by rw [HR1.out, HRR.out]; rfl, hbw.trans (hb6'.mono hbw.size)⟩
            · have HAL2 := Lib.hid (HAL.out rfl)
              clear hno HAL
              go_wp2_with (first
                | (go_at_call 61; refine (HEK.out _ _ _ (hs4.below hb5') hs5).mono ?_; rintro e w6 ⟨rfl, hb6⟩)
                | (go_at_call 63; refine (HRK.out _ hb4).mono ?_; rintro e w5 ⟨u5, rfl, hs5, hb5'⟩; have hb5 := hb4.trans (hb5'.mono hb4.size))
                | (go_at_call 63; refine HR0.out.mono ?_; rintro e w4 ⟨u4, rfl, hs4, hb4⟩; obtain ⟨⟨f0, f1, f2⟩, -⟩ := K0.out _ (hb.trans (hb4.mono hb.size))))
              have hb6' := hb5.trans (hb6.mono hb5.size)
              have hb7 := hb.trans (hb6'.mono hb.size)
              go_roundw
              case rel => exact ⟨p + 1, by omega, by omega, by go_num, HAL2, hb7⟩
              case measure => simp [intOf]; omega
          · obtain rfl : p = m := by omega
            have HR2 := Lib.hid (HYE2.out hall.out)
            go_wp2
            go_ret2
            exact ⟨by rw [HR1.out, HR2.out]; rfl, hbw⟩

end Go.Proofs.Ytjobgobeiiakgaa
