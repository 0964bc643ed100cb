/- The words of a code: the walk of the reference's part. -/
import Derived.Test.YtmconcfgldiceaaDoorWrd
namespace Go.Proofs.YtmconcfgldiceaaDoor
set_option linter.unusedSimpArgs false
set_option linter.unusedVariables false
open Go.RowKit

set_option maxRecDepth 100000 in
set_option maxHeartbeats 8000000 in
theorem l04Words_any (gp : Nat) (v : Value) (xs : List Int) (w : World) (hg : w.cell? ⟨gp, 0, none⟩ = some v) (hv : SlR w v (xs.map (Value.int .i64))) (hd : validC xs = true) :
    Calls Tryd.prog 33 #[.pointer (some ⟨gp, 0, none⟩)] w (RetSl w 9 xs.length ((wordsL xs).map Value.string) id) := by
  obtain ⟨p1, p2, p3, -⟩ := vC_parts hd
  obtain ⟨i0, hi0, hz00, hz01, hz02⟩ := info_parts info_int
  obtain ⟨i1, hi1, hz10, hz11, hz12⟩ := info_parts info_str
  obtain ⟨n, hnl⟩ : ∃ n, xs.length = n := ⟨_, rfl⟩
  obtain ⟨b, off, c, rfl, hnc, hcm, hbl, hxk⟩ := sl_cells 0 hv hnl (by omega)
  rw [hnl]
  have HX := Lib.hid hxk
  have HN := Lib.hid hnl
  have HP := Lib.hid p3
  have hn16 : n ≤ 16 := by omega
  have hn1 : 1 ≤ n := by omega
  have hgl := World.block_lt_of_cell? w _ hg
  unfold maxLen at hcm
  have HG := Lib.hid hg
  clear hd p1 p2 p3 hv hnl hxk
  go_enter Tryd.func33, Tryd.ntmps33
  go_wp2
  clear hg
  have hown0 : (w.alloc (.cells #[] 3)).ownsRow w.heap.size 3 1 (.slice (some ⟨w.heap.size, 0, none⟩) 0 0) 0 [] := World.ownsRow_made w #[] 0 (Nat.le_refl _) (Nat.zero_le _) rfl
  have hb1 : Below w.heap.size w (w.alloc (.cells #[] 3)) := (Below.refl _ _).alloc (by omega) _
  go_loopw [4, 5] (fun q i wr => ∃ k : Nat, k ≤ n ∧ i = .int .i64 k ∧ wr.ownsRow w.heap.size 3 1 q k (nats (ordX (clt xs) id k)) ∧ Below w.heap.size w wr) (fun _ i _ => n - (intOf i).toNat)
  case atStart => exact ⟨0, Nat.zero_le _, rfl, hown0, hb1⟩
  case round =>
    clear hown0 hb1
    obtain ⟨k, hk, rfl, hown, hb⟩ := hrel
    have hbs := hb.size
    by_cases hlt : k < n
    · go_wp2_with (at_builtin; refine wpList_append_own _ rfl _ _ 65 rfl w.heap.size 3 i0 (.int .i64 0) 1 8 Tryd.underlying65 hi0 hz00 hz01 hz02 rfl (by decide) u4 _ _ rfl (hown.alloc _) ⟨(World.heap wr).size, 0, none⟩ 1 1 [.int .i64 k] rfl rfl (cell_one_new _ _ _) (one_oneCell rfl) (by unfold maxLen; omega) (by omega) (by simp only [World.size_alloc]; have := hb.size; omega) ?_; intro v1 w1 hown1 hgx _; have hb2 := app_below hb (by have := hb.size; omega) _ hgx hown (by omega))
      obtain ⟨ao, co, rfl⟩ := ownsRow_shape hown1
      obtain ⟨g, rfl, hBg, hgl1⟩ := own_some hown1 (by omega)
      clear hown hb
      have HOX : Hid (ordX (clt xs) id (k + 1) = bub (clt xs) 0 (ordX (clt xs) id k ++ [k]) k) := rfl
      obtain ⟨goal, hgoal⟩ : ∃ goal, goal = ordX (clt xs) id (k + 1) := ⟨_, rfl⟩
      have HGL := Lib.hid hgoal
      rw [← hgoal] at HOX
      have hl0 : (ordX (clt xs) id k ++ [k]).length = k + 1 := by simp [ordX_length]
      have hm0 : ∀ x ∈ ordX (clt xs) id k ++ [k], x < n := by
        intro x hx
        rcases List.mem_append.1 hx with h | h
        · obtain ⟨i, hi, e⟩ := ordX_mem h
          have e2 : x = i := e
          omega
        · rw [List.mem_singleton] at h; omega
      rw [show nats (ordX (clt xs) id k) ++ [Value.int .i64 (k : Int)] = nats (ordX (clt xs) id k ++ [k]) by simp] at hown1
      generalize ordX (clt xs) id k ++ [k] = L0 at *
      clear hgoal
      go_loopw [6, 7] (fun q _ wr => ∃ (j : Nat) (L : List Nat), q = .int .i64 (j : Int) ∧ j ≤ k ∧ L.length = k + 1 ∧ wr.ownsRow w.heap.size 3 1 (.slice (some ⟨g, 0, none⟩) (k + 1) co) (k + 1) (nats L) ∧ (∀ x ∈ L, x < n) ∧ bub (clt xs) 0 L j = goal ∧ Below w.heap.size w wr) (fun q _ _ => (intOf q).toNat)
      case atStart => exact ⟨k, L0, rfl, Nat.le_refl _, hl0, hown1, hm0, HOX.out.symm, hb2⟩
      case round =>
        clear hown1 hm0 hb2 hl0 HOX
        obtain ⟨j, L, rfl, hj, hlen, hown, hmem, hbub, hb⟩ := hrel
        by_cases haj : 0 < j
        · obtain ⟨p, hp⟩ : ∃ p, j = p + 1 := ⟨j - 1, by omega⟩
          have c1 := hown.cellAt j (by omega)
          have c2 := hown.cellAt p (by omega)
          rw [nats_get L _ (by omega)] at c1 c2
          have f1 := hown.frozenAt j
          have f2 := hown.frozenAt p
          have hx := getNat hmem j (by omega)
          have hy := getNat hmem p (by omega)
          have HS : Hid (nats (swp L p) = ((nats L).set j (.int .i64 ((L[p]?.getD 0 : Nat) : Int))).set p (.int .i64 ((L[j]?.getD 0 : Nat) : Int))) := by show _ = _; rw [hp]; simp [swp, List.map_set]
          have HB1 : Hid (clt xs (L[j]?.getD 0) (L[p]?.getD 0) = true → bub (clt xs) 0 (swp L p) p = goal) := fun h => by rw [← hbub, hp, bub, if_pos ⟨by omega, by rw [← hp]; exact h⟩]
          have HB2 : Hid (clt xs (L[j]?.getD 0) (L[p]?.getD 0) = false → L = goal) := fun h => by rw [← hbub, hp, bub, if_neg (fun x => by rw [← hp, h] at x; cases x.2)]
          have HSM := Lib.hid (swp_mem hmem (j := p) (by omega))
          have HC : Hid (clt xs (L[j]?.getD 0) (L[p]?.getD 0) = decide (xs[L[j]?.getD 0]?.getD 0 < xs[L[p]?.getD 0]?.getD 0)) := rfl
          clear hbub
          have HLEN := Lib.hid hlen
          have e1 := (hb.cell (p := ⟨gp, 0, none⟩) hgl).trans HG.out
          have e2 := (hb.cell (p := ⟨b, off + L[j]?.getD 0, none⟩) hbl).trans (HX.out _ hx)
          have e3 := (hb.cell (p := ⟨b, off + L[p]?.getD 0, none⟩) hbl).trans (HX.out _ hy)
          generalize L[j]?.getD 0 = x at *
          generalize L[p]?.getD 0 = y at *
          generalize xs[x]?.getD 0 = xv at *
          generalize xs[y]?.getD 0 = yv at *
          clear hlen
          have hg1 : decide (0 < j) = true := decide_eq_true haj
          have hg2 : decide ((0 : Int) < (j : Int)) = true := decide_eq_true (by omega)
          have hj1 : (j : Int) - 1 = (p : Int) := by omega
          have hpn : p < k + 1 := by omega
          have hpk : p ≤ k := by omega
          have hjm : (j : Int) ≤ 4096 := by omega
          have hj0 : (1 : Int) ≤ (j : Int) := by omega
          have hxi : (0 : Int) ≤ (x : Int) := by omega
          have hxn : (x : Int) < (n : Int) := by omega
          have hyi : (0 : Int) ≤ (y : Int) := by omega
          have hyn : (y : Int) < (n : Int) := by omega
          clear hp
          cases hlt2 : clt xs x y
          · have hk2 : decide (xv < yv) = false := by rw [← HC.out]; exact hlt2
            have HE : Hid (L = goal) := HB2.out hlt2
            clear hlt2 f1 f2
            go_wp2
            go_quiet (fail)
            go_wp2
            go_roundw
            case rel => exact ⟨k + 1, by omega, by go_num, by rw [← HGL.out, ← HE.out]; exact own_drewN hown _, below_drewN hb _⟩
            case measure => simp [intOf]; omega
          · have hk2 : decide (xv < yv) = true := by rw [← HC.out]; exact hlt2
            have HE : Hid (bub (clt xs) 0 (swp L p) p = goal) := HB1.out hlt2
            clear hlt2
            go_wp2
            go_quiet (fail)
            go_wp2
            go_roundw
            case rel => exact ⟨p, swp L p, rfl, hpk, by rw [swp_length]; exact HLEN.out, by rw [HS.out]; exact ((own_drewN hown _).stored j _).1.stored p _ |>.1, HSM.out, HE.out, ((below_drewN hb _).setCell hBg _).setCell hBg _⟩
            case measure => simp [intOf]; omega
        · obtain rfl : j = 0 := by omega
          have HE : Hid (L = goal) := by
            show L = goal
            rw [← hbub, bub_stop _ _ _ _ (by omega)]
          have hg1 : decide (0 < (0 : Nat)) = false := rfl
          clear hbub
          go_wp2
          go_quiet (fail)
          go_wp2
          go_roundw
          case rel => exact ⟨k + 1, by omega, by go_num, by rw [← HGL.out, ← HE.out]; exact own_drewN hown _, below_drewN hb _⟩
          case measure => simp [intOf]; omega
    · obtain rfl : n = k := by omega
      obtain ⟨ao, co, rfl⟩ := ownsRow_shape hown
      obtain ⟨g, rfl, hBg, hgl1⟩ := own_some hown (by omega)
      obtain ⟨wo, rfl⟩ : ∃ wo : World, wo = wr := ⟨_, rfl⟩
      have HO : Hid (ordX (clt xs) id n = cord xs) := by show _ = _; unfold cord; rw [HN.out]
      go_wp2_with (at_make; refine wpList_make_full _ rfl _ _ 28 rfl wo.heap.size 9 i1 (.string ⟨#[]⟩) 1 Tryd.underlying28 hi1 hz10 hz11 .i64 .i64 _ _ n rfl rfl rfl rfl (by rw [hz12]; omega) (by unfold maxLen; omega) (Nat.le_refl _) ?_; intro w2 hown2 hgr2)
      have hb3 : Below wo.heap.size wo w2 := (Below.refl _ _).grown hgr2 (Nat.le_refl _) (by simp)
      rw [Nat.mul_one, show (Value.cells (.string ⟨#[]⟩)) = #[.string ⟨#[]⟩] from rfl, toList_madeCells_one] at hown2
      have hbl1 : b < wo.heap.size := Nat.lt_of_lt_of_le hbl hb.size
      have hgp1 : gp < wo.heap.size := Nat.lt_of_lt_of_le hgl hb.size
      have HO2 : Hid (∀ k, k < n → ∀ W, Below wo.heap.size wo W → W.cell? ⟨g, k, none⟩ = some (.int .i64 (((cord xs)[k]?.getD 0 : Nat) : Int))) := by
        show ∀ k, _
        intro k hk W hW
        have h := hown.cellAt k (by omega)
        rw [HO.out, nats_get _ _ (by rw [cord_length, HN.out]; exact hk)] at h
        exact (hW.cell (p := ⟨g, k, none⟩) hgl1).trans h
      have HX2 : Hid (∀ k, k < n → ∀ W, Below wo.heap.size wo W → W.cell? ⟨b, off + k, none⟩ = some (.int .i64 (xs[k]?.getD 0))) := by
        show ∀ k, _
        intro k hk W hW
        exact (hW.cell (p := ⟨b, off + k, none⟩) hbl1).trans ((hb.cell (p := ⟨b, off + k, none⟩) hbl).trans (HX.out k hk))
      have HG2 : Hid (∀ W, Below wo.heap.size wo W → W.cell? ⟨gp, 0, none⟩ = some (.slice (some ⟨b, off, none⟩) n c)) := by
        show ∀ W, _
        intro W hW
        exact (hW.cell (p := ⟨gp, 0, none⟩) hgp1).trans ((hb.cell (p := ⟨gp, 0, none⟩) hgl).trans HG.out)
      have HOL : Hid (∀ k, k < n → (cord xs)[k]?.getD 0 < n) := fun k hk => by have := cord_lt xs k (by rw [HN.out]; exact hk); rw [HN.out] at this; exact this
      have o0 := HO2.out 0 (by omega) w2 hb3
      have l0 := HOL.out 0 (by omega)
      have x0 := HX2.out _ l0 w2 hb3
      have g0 := HG2.out w2 hb3
      have HL0 : Hid (lenAt xs (cord xs) 0 = xs[(cord xs)[0]?.getD 0]?.getD 0) := rfl
      have HBW : Hid (Below w.heap.size w wo) := hb
      have HWS0 : w.heap.size ≤ wo.heap.size := hbs
      generalize (cord xs)[0]?.getD 0 = p0 at *
      generalize xs[p0]?.getD 0 = y0 at *
      have p0i : (0 : Int) ≤ (p0 : Int) := by omega
      have p0n : (p0 : Int) < (n : Int) := by omega
      clear hown hb hgr2
      go_quiet (fail)
      go_wp2
      go_loopw [9, 10, 11, 12] (fun wd lg i _ wr => ∃ k : Nat, k ≤ n ∧ i = .int .i64 k ∧ wd = .int .i64 ((wnum xs (cord xs) (k - 1) : Nat) : Int) ∧ lg = .int .i64 (lenAt xs (cord xs) (k - 1)) ∧ wr.ownsRow wo.heap.size 9 1 (.slice (some ⟨wo.heap.size, 0, none⟩) n n) n ((wset xs (cord xs) k).map Value.string) ∧ Below wo.heap.size wo wr) (fun _ _ i _ _ => n - (intOf i).toNat)
      case atStart => exact ⟨0, Nat.zero_le _, rfl, rfl, by rw [HL0.out], by simp only [wset, List.map_replicate, HN.out]; exact own_drewN hown2 _, below_drewN hb3 _⟩
      case round =>
        clear hown2 hb3 o0 x0 g0 l0 p0i p0n
        obtain ⟨k, hk, rfl, rfl, rfl, hown, hb⟩ := hrel
        by_cases hlt : k < n
        · have ok := HO2.out k hlt wr hb
          have lk := HOL.out k hlt
          have xk := HX2.out _ lk wr hb
          have gk := HG2.out wr hb
          have HLK : Hid (lenAt xs (cord xs) k = xs[(cord xs)[k]?.getD 0]?.getD 0) := rfl
          have hlb := lenAt_bd HP.out k (by rw [HN.out]; exact hlt)
          rw [HLK.out] at hlb
          have HWS : Hid (wset xs (cord xs) (k + 1) = (wset xs (cord xs) k).set ((cord xs)[k]?.getD 0) ⟨(digs (wnum xs (cord xs) k) (xs[(cord xs)[k]?.getD 0]?.getD 0).toNat).toArray⟩) := rfl
          have hwk := wnum_le HP.out (by rw [HN.out]; exact hn16) k (by rw [HN.out]; exact hlt)
          have hd1 := hown.cellAt ((cord xs)[k]?.getD 0) (by omega)
          obtain ⟨uo, huo⟩ : ∃ uo, ((wset xs (cord xs) k).map Value.string)[(cord xs)[k]?.getD 0]? = some uo := ⟨_, List.getElem?_eq_getElem (by simp [wset_length]; have := HN.out; omega)⟩
          rw [huo] at hd1
          have hf := hown.frozenAt ((cord xs)[k]?.getD 0)
          have HST := Lib.hid (hown.stored ((cord xs)[k]?.getD 0) (.string ⟨(digs (wnum xs (cord xs) k) (xs[(cord xs)[k]?.getD 0]?.getD 0).toNat).toArray⟩))
          clear huo
          have hpi : (0 : Int) ≤ (((cord xs)[k]?.getD 0 : Nat) : Int) := by omega
          have hpn : (((cord xs)[k]?.getD 0 : Nat) : Int) < (n : Int) := by omega
          have HWS1 := HWS.out
          generalize (cord xs)[k]?.getD 0 = p at *
          obtain ⟨d, hd⟩ : ∃ d : Nat, xs[p]?.getD 0 = (d : Int) := ⟨(xs[p]?.getD 0).toNat, by omega⟩
          rw [hd] at HST HWS1 HLK hlb xk
          rw [Int.toNat_natCast] at HST HWS1
          have HWS := Lib.hid HWS1
          obtain ⟨m, hm⟩ : ∃ m, wnum xs (cord xs) k = m := ⟨_, rfl⟩
          have HM := Lib.hid hm
          rw [hm] at HST HWS hwk
          have HM9 : Hid (m ≤ 9223372036854775807) := by show m ≤ _; omega
          have HD9 : Hid (d ≤ 63) := by show d ≤ _; omega
          by_cases hk0 : k = 0
          · subst hk0
            have hw0 : wnum xs (cord xs) (0 - 1) = m := hm
            rw [hw0]
            clear hd hm hw0 HWS1
            go_wp2_with (go_at_call 49; refine (l04Digits_any m d _ HM9.out HD9.out).mono ?_; rintro e _ ⟨rfl, rfl⟩)
            go_roundw
            case rel => exact ⟨0 + 1, by omega, rfl, by show _ = Value.int .i64 ((wnum xs (cord xs) 0 : Nat) : Int); rw [HM.out], by show _ = Value.int .i64 (lenAt xs (cord xs) 0); rw [HLK.out], by rw [HWS.out, List.map_set]; exact HST.out.1, hb.setCell (p := ⟨wo.heap.size, p, none⟩) (Nat.le_refl _) _⟩
            case measure => simp [intOf]; omega
          · obtain ⟨q, hq⟩ : ∃ q, k = q + 1 := ⟨k - 1, by omega⟩
            have HW1 : Hid (m = (wnum xs (cord xs) q + 1) * 2 ^ (lenAt xs (cord xs) k - lenAt xs (cord xs) q).toNat) := by show _ = _; rw [← hm, hq]; rfl
            have hs := cord_srt xs q (by rw [HN.out]; omega)
            rw [← hq] at hs
            have hlq := lenAt_bd HP.out q (by rw [HN.out]; omega)
            rw [HLK.out] at hs HW1
            rw [show k - 1 = q by omega]
            have hwq := wnum_le HP.out (by rw [HN.out]; exact hn16) q (by rw [HN.out]; omega)
            obtain ⟨e, he⟩ : ∃ e : Nat, lenAt xs (cord xs) q = (e : Int) := ⟨(lenAt xs (cord xs) q).toNat, by omega⟩
            rw [he] at HW1 hs hlq ⊢
            generalize wnum xs (cord xs) q = mq at *
            have hkp : 0 < k := by omega
            obtain ⟨f, hf2⟩ : ∃ f : Nat, (d : Int) - (e : Int) = (f : Int) := ⟨d - e, by omega⟩
            rw [hf2, Int.toNat_natCast] at HW1
            have hf32 : f ≤ 32 := by omega
            have hf33 : (f : Int) ≤ 32 := by omega
            clear hd hm HWS1 hq he hs hlq hk0
            have hmi : ((mq : Int) + 1) * 2 ^ f = (m : Int) := by rw [HW1.out]; simp
            have hwr : IntKind.i64.wrap (((mq : Int) + 1) * 2 ^ f) = (m : Int) := by rw [hmi]; exact IntWalk.i64_in _ (by omega)
            clear hmi
            go_wp2_with (go_at_call 49; refine (l04Digits_any m d _ HM9.out HD9.out).mono ?_; rintro e _ ⟨rfl, rfl⟩)
            go_roundw
            case rel => exact ⟨k + 1, by omega, by go_num, by show _ = Value.int .i64 ((wnum xs (cord xs) k : Nat) : Int); rw [HM.out], by show _ = Value.int .i64 (lenAt xs (cord xs) k); rw [HLK.out], by rw [HWS.out, List.map_set]; exact HST.out.1, hb.setCell (p := ⟨wo.heap.size, p, none⟩) (Nat.le_refl _) _⟩
            case measure => simp [intOf]; omega
        · obtain rfl : n = k := by omega
          go_wp2
          go_ret
          exact RetSl.of (f := id) (ownsRow_base (by unfold wordsL; rw [HN.out]; exact hown) HWS0) (HBW.out.trans (hb.mono HWS0))

end Go.Proofs.YtmconcfgldiceaaDoor
