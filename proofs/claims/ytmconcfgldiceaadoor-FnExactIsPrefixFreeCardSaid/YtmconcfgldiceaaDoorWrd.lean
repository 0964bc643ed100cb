/- The words of a code: the walk of the program's part. -/
import Derived.Test.YtmconcfgldiceaaDoorSrt2
import Derived.Test.YtmconcfgldiceaaDoorTxt
namespace Go.Proofs.YtmconcfgldiceaaDoor
set_option linter.unusedSimpArgs false
set_option linter.unusedVariables false
open Go.RowKit

theorem info_int : (Tryd.prog.info? 3).map (fun i => (i.zero, i.size, i.bytes)) = some (some (.int .i64 0), 1, 8) := by kernel_rfl
theorem info_str : (Tryd.prog.info? 9).map (fun i => (i.zero, i.size, i.bytes)) = some (some (.string ⟨#[]⟩), 1, 16) := by kernel_rfl
theorem nats_range_succ (k : Nat) : nats (List.range (k + 1)) = nats (List.range k) ++ [.int .i64 (k : Int)] := by simp [List.range_succ]

set_option maxHeartbeats 4000000 in
theorem words_any (v : Value) (xs : List Int) (w : World) (hv : SlR w v (xs.map (Value.int .i64))) (hd : validC xs = true) :
    Calls Tryd.prog 36 #[.agg #[v]] w (RetSl w 9 xs.length ((wordsL xs).map Value.string) id) := by
  obtain ⟨p1, p2, p3, -⟩ := vC_parts hd
  obtain ⟨i0, hi0, hz00, hz01, hz02⟩ := info_parts info_int
  obtain ⟨i1, hi1, hz10, hz11, hz12⟩ := info_parts info_str
  have hb0 : Below w.heap.size w (w.alloc (.cells #[v] 39)) := by go_grown
  have hv1 := hv.below hb0
  have hc1 : (w.alloc (.cells #[v] 39)).cell? ⟨w.heap.size, 0, none⟩ = some v := by simp
  have hsz : (w.alloc (.cells #[v] 39)).heap.size = w.heap.size + 1 := by simp
  have HVB : Hid (∀ W, Below (w.heap.size + 1) (w.alloc (.cells #[v] 39)) W → SlR W v (xs.map (Value.int .i64))) := by
    show ∀ W, _
    intro W hW
    exact hv1.below (by rw [hsz]; exact hW)
  have hmf : ∀ (fn : Fn) (first cap : Array Value) (w : World), (Instr.makeFunc fn first cap).run Tryd.prog w = .ok (.func fn first cap) w := fun _ _ _ _ => rfl
  obtain ⟨n, hnl⟩ : ∃ n, xs.length = n := ⟨_, rfl⟩
  obtain ⟨b, off, c, rfl, hnc, hcm, hbl, hxk⟩ := sl_cells 0 hv hnl (by omega)
  rw [hnl]
  have HX := Lib.hid hxk
  clear hxk
  have HN := Lib.hid hnl
  have HP := Lib.hid p3
  have hn16 : n ≤ 16 := by omega
  have hn1 : 1 ≤ n := by omega
  unfold maxLen at hcm
  obtain ⟨W1, hW1⟩ : ∃ W1, W1 = w.alloc (.cells #[.slice (some ⟨b, off, none⟩) n c] 39) := ⟨_, rfl⟩
  have HCL : Hid (ClR Tryd.prog 53 (.pointer (some ⟨w.heap.size, 0, none⟩)) (w.heap.size + 1) xs.length W1 (cfW xs)) := by
    show ClR _ _ _ _ _ _ _
    rw [hW1]
    exact wcl_any _ xs w.heap.size (w.heap.size + 1) _ hc1 (by omega) hv1 HVB.out
  clear hd p1 p2 p3 hv hnl
  go_enter Tryd.func36, Tryd.ntmps36
  go_wp2
  rw [← hW1] at hb0 hv1 hc1 hsz HVB ⊢
  clear hW1
  have hown0 : (W1.alloc (.cells #[] 3)).ownsRow (w.heap.size + 1) 3 1 (.slice (some ⟨w.heap.size + 1, 0, none⟩) 0 0) 0 [] := by
    have h : (W1.alloc (.cells #[] 3)).ownsRow W1.heap.size 3 1 (.slice (some ⟨W1.heap.size, 0, none⟩) 0 0) 0 [] := World.ownsRow_made W1 #[] 0 (Nat.le_refl _) (Nat.zero_le _) rfl
    rw [hsz] at h
    exact h
  have hb1 : Below (w.heap.size + 1) W1 (W1.alloc (.cells #[] 3)) := (Below.refl _ _).alloc (by omega) _
  go_loopw [3, 14] (fun q i wr => ∃ k : Nat, k ≤ n ∧ i = .int .i64 k ∧ wr.ownsRow (w.heap.size + 1) 3 1 q k (nats (List.range k)) ∧ Below (w.heap.size + 1) W1 wr) (fun _ i _ => n - (intOf i).toNat)
  case atStart => exact ⟨0, Nat.zero_le _, rfl, hown0, hb1⟩
  case round =>
    clear hown0 hb1
    obtain ⟨k, hk, rfl, hown, hb⟩ := hrel
    have hbs := hb.size
    rw [hsz] at hbs
    by_cases hlt : k < n
    · have hcr := (hb.cell (p := ⟨w.heap.size, 0, none⟩) (show w.heap.size < w.heap.size + 1 by omega)).trans hc1
      go_wp2_with (at_builtin; refine wpList_append_own _ rfl _ _ 65 rfl (w.heap.size + 1) 3 i0 (.int .i64 0) 1 8 Tryd.underlying65 hi0 hz00 hz01 hz02 rfl (by decide) u3 _ _ rfl (hown.alloc _) ⟨(World.heap wr).size, 0, none⟩ 1 1 [.int .i64 k] rfl rfl (cell_one_new _ _ _) (one_oneCell rfl) (by unfold maxLen; omega) (by omega) (by simp only [World.size_alloc]; have := hb.size; omega) ?_; intro v1 w1 hown1 hgx _; have hb2 := app_below hb (by have := hb.size; omega) _ hgx hown (by omega))
      rw [← nats_range_succ k] at hown1
      go_roundw
      case rel => exact ⟨k + 1, by omega, by go_num, hown1, hb2⟩
      case measure => simp [intOf]; omega
    · obtain rfl : n = k := by omega
      obtain ⟨ao, co, rfl⟩ := ownsRow_shape hown
      obtain ⟨g, rfl, hBg, hgl⟩ := own_some hown (by omega)
      have hst := stableWords_any (.pointer (some ⟨w.heap.size, 0, none⟩)) (w.heap.size + 1) xs.length n W1 wr (cfW xs) (clt xs) (fun x y _ _ => cfW_lt xs x y) HCL.out (some ⟨g, 0, none⟩) co (List.range n) (by simp) (fun x hx => by rw [HN.out]; exact List.mem_range.1 hx) hn1 (by omega) hown hb
      rw [insR_range _ _ hn1] at hst
      have HST := Lib.hid hst
      have HO : Hid (ordX (clt xs) id n = cord xs) := by show _ = _; unfold cord; rw [HN.out]
      clear hst hown
      go_wp2_with (first | (go_at_call 52; refine HST.out.mono ?_; rintro e w1 ⟨rfl, ho, hb2, hg⟩; rw [HO.out] at ho) | (at_make; refine wpList_make_full _ rfl _ _ 28 rfl w1.heap.size 9 i1 (.string ⟨#[]⟩) 1 Tryd.underlying28 hi1 hz10 hz11 .i64 .i64 _ _ n rfl rfl rfl rfl (by rw [hz12]; omega) (by unfold maxLen; omega) (Nat.le_refl _) ?_; intro w2 hown2 hgr2))
      have hb3 : Below w1.heap.size w1 w2 := (Below.refl _ _).grown hgr2 (Nat.le_refl _) (by simp)
      rw [Nat.mul_one, show (Value.cells (.string ⟨#[]⟩)) = #[.string ⟨#[]⟩] from rfl, toList_madeCells_one] at hown2
      have hgl1 : g < w1.heap.size := (ho.lt g rfl).2
      have hbl1 : b < w1.heap.size := Nat.lt_of_lt_of_le (by omega) hb2.size
      have hws : w.heap.size < w1.heap.size := Nat.lt_of_lt_of_le (by omega) hb2.size
      have HO2 : Hid (∀ k, k < n → ∀ W, Below w1.heap.size w1 W → W.cell? ⟨g, k, none⟩ = some (.int .i64 (((cord xs)[k]?.getD 0 : Nat) : Int))) := by
        show ∀ k, _
        intro k hk W hW
        have h := ho.cellAt k (by omega)
        rw [nats_get _ _ (by rw [cord_length, HN.out]; exact hk)] at h
        exact (hW.cell (p := ⟨g, k, none⟩) hgl1).trans h
      have HX2 : Hid (∀ k, k < n → ∀ W, Below w1.heap.size w1 W → W.cell? ⟨b, off + k, none⟩ = some (.int .i64 (xs[k]?.getD 0))) := by
        show ∀ k, _
        intro k hk W hW
        exact (hW.cell (p := ⟨b, off + k, none⟩) hbl1).trans ((hb2.cell (p := ⟨b, off + k, none⟩) (show b < w.heap.size + 1 by omega)).trans ((hb0.cell (p := ⟨b, off + k, none⟩) hbl).trans (HX.out k hk)))
      have HG2 : Hid (∀ W, Below w1.heap.size w1 W → W.cell? ⟨w.heap.size, 0, none⟩ = some (.slice (some ⟨b, off, none⟩) n c)) := by
        show ∀ W, _
        intro W hW
        exact (hW.cell (p := ⟨w.heap.size, 0, none⟩) hws).trans ((hb2.cell (p := ⟨w.heap.size, 0, none⟩) (show w.heap.size < w.heap.size + 1 by omega)).trans hc1)
      have HOL : Hid (∀ k, k < n → (cord xs)[k]?.getD 0 < n) := fun k hk => by have := cord_lt xs k (by rw [HN.out]; exact hk); rw [HN.out] at this; exact this
      have o0 := HO2.out 0 (by omega) w2 hb3
      have l0 := HOL.out 0 (by omega)
      have x0 := HX2.out _ l0 w2 hb3
      have g0 := HG2.out w2 hb3
      have HL0 : Hid (lenAt xs (cord xs) 0 = xs[(cord xs)[0]?.getD 0]?.getD 0) := rfl
      have HBW : Hid (Below w.heap.size w w1) := (hb0.trans (hb2.mono (by omega)))
      generalize (cord xs)[0]?.getD 0 = p0 at *
      generalize xs[p0]?.getD 0 = y0 at *
      have p0i : (0 : Int) ≤ (p0 : Int) := by omega
      have p0n : (p0 : Int) < (n : Int) := by omega
      clear ho hb2 hg hgr2 hb0 hv1 hc1
      go_quiet (fail)
      go_wp2
      go_loopw [6, 7, 37] (fun wd lg i wr => ∃ k : Nat, k ≤ n ∧ i = .int .i64 k ∧ wd = .int .u64 ((wnum xs (cord xs) (k - 1) : Nat) : Int) ∧ lg = .int .i64 (lenAt xs (cord xs) (k - 1)) ∧ wr.ownsRow w1.heap.size 9 1 (.slice (some ⟨w1.heap.size, 0, none⟩) n n) n ((wset xs (cord xs) k).map Value.string) ∧ Below w1.heap.size w1 wr) (fun _ _ i _ => n - (intOf i).toNat)
      case atStart => exact ⟨0, Nat.zero_le _, rfl, rfl, by rw [HL0.out], by simp only [wset, List.map_replicate, HN.out]; exact own_drewN hown2 _, below_drewN hb3 _⟩
      case round =>
        clear hown2 hb3 o0 x0 g0 l0 p0i p0n
        obtain ⟨k, hk, rfl, rfl, rfl, hown, hb⟩ := hrel
        by_cases hlt : k < n
        · have ok := HO2.out k hlt wr hb
          have lk := HOL.out k hlt
          have xk := HX2.out _ lk wr hb
          have gk := HG2.out wr hb
          have HLK : Hid (lenAt xs (cord xs) k = xs[(cord xs)[k]?.getD 0]?.getD 0) := rfl
          have hlb := lenAt_bd HP.out k (by rw [HN.out]; exact hlt)
          rw [HLK.out] at hlb
          have HWS : Hid (wset xs (cord xs) (k + 1) = (wset xs (cord xs) k).set ((cord xs)[k]?.getD 0) ⟨(digs (wnum xs (cord xs) k) (xs[(cord xs)[k]?.getD 0]?.getD 0).toNat).toArray⟩) := rfl
          have hwk := wnum_le HP.out (by rw [HN.out]; exact hn16) k (by rw [HN.out]; exact hlt)
          have hd1 := hown.cellAt ((cord xs)[k]?.getD 0) (by omega)
          obtain ⟨uo, huo⟩ : ∃ uo, ((wset xs (cord xs) k).map Value.string)[(cord xs)[k]?.getD 0]? = some uo := ⟨_, List.getElem?_eq_getElem (by simp [wset_length]; have := HN.out; omega)⟩
          rw [huo] at hd1
          have hf := hown.frozenAt ((cord xs)[k]?.getD 0)
          have HST := fun (W : World) (hW : W.ownsRow w1.heap.size 9 1 (.slice (some ⟨w1.heap.size, 0, none⟩) n n) n ((wset xs (cord xs) k).map Value.string)) => hW.stored ((cord xs)[k]?.getD 0) (.string ⟨(digs (wnum xs (cord xs) k) (xs[(cord xs)[k]?.getD 0]?.getD 0).toNat).toArray⟩)
          clear huo
          have hpi : (0 : Int) ≤ (((cord xs)[k]?.getD 0 : Nat) : Int) := by omega
          have hpn : (((cord xs)[k]?.getD 0 : Nat) : Int) < (n : Int) := by omega
          have HST := Lib.hid HST
          have HWS1 := HWS.out
          generalize (cord xs)[k]?.getD 0 = p at *
          obtain ⟨d, hd⟩ : ∃ d : Nat, xs[p]?.getD 0 = (d : Int) := ⟨(xs[p]?.getD 0).toNat, by omega⟩
          rw [hd] at HST HWS1 HLK hlb xk
          rw [Int.toNat_natCast] at HST HWS1
          have HWS := Lib.hid HWS1
          obtain ⟨m, hm⟩ : ∃ m, wnum xs (cord xs) k = m := ⟨_, rfl⟩
          have HM := Lib.hid hm
          rw [hm] at HST HWS hwk
          by_cases hk0 : k = 0
          · subst hk0
            have hw0 : wnum xs (cord xs) (0 - 1) = m := hm
            rw [hw0]
            clear hd hm hw0 HWS1
            go_wp2_with (go_at_call 55; refine (binary_any m d _ (by omega) (by omega)).mono ?_; rintro e w3 ⟨rfl, hbb⟩; have hd3 := cell_step hd1 hbb; have hf3 := (hbb.frozen (p := ⟨w1.heap.size, p, none⟩) (World.block_lt_of_cell? _ _ hd1)).trans hf; have hown3 := (HST.out _ (ownsRow_below hown hbb)).1; have hb3 := (hb.trans (hbb.mono hb.size)).setCell (p := ⟨w1.heap.size, p, none⟩) (Nat.le_refl _) (.string ⟨(digs m d).toArray⟩))
            go_roundw
            case rel => exact ⟨0 + 1, by omega, rfl, by show _ = Value.int .u64 ((wnum xs (cord xs) 0 : Nat) : Int); rw [HM.out], by show _ = Value.int .i64 (lenAt xs (cord xs) 0); rw [HLK.out], by rw [HWS.out, List.map_set]; exact hown3, hb3⟩
            case measure => simp [intOf]; omega
          · obtain ⟨q, hq⟩ : ∃ q, k = q + 1 := ⟨k - 1, by omega⟩
            have HW1 : Hid (m = (wnum xs (cord xs) q + 1) * 2 ^ (lenAt xs (cord xs) k - lenAt xs (cord xs) q).toNat) := by show _ = _; rw [← hm, hq]; rfl
            have hs := cord_srt xs q (by rw [HN.out]; omega)
            rw [← hq] at hs
            have hlq := lenAt_bd HP.out q (by rw [HN.out]; omega)
            rw [HLK.out] at hs HW1
            rw [show k - 1 = q by omega]
            have hwq := wnum_le HP.out (by rw [HN.out]; exact hn16) q (by rw [HN.out]; omega)
            obtain ⟨e, he⟩ : ∃ e : Nat, lenAt xs (cord xs) q = (e : Int) := ⟨(lenAt xs (cord xs) q).toNat, by omega⟩
            rw [he] at HW1 hs hlq ⊢
            generalize wnum xs (cord xs) q = mq at *
            have hkp : 0 < k := by omega
            obtain ⟨f, hf2⟩ : ∃ f : Nat, (d : Int) - (e : Int) = (f : Int) := ⟨d - e, by omega⟩
            rw [hf2, Int.toNat_natCast] at HW1
            have hf32 : f ≤ 32 := by omega
            clear hd hm HWS1 hq he hs hlq hk0
            have hmi : ((mq : Int) + 1) * 2 ^ f = (m : Int) := by rw [HW1.out]; simp
            have hwr : IntKind.u64.wrap (((mq : Int) + 1) * 2 ^ f) = (m : Int) := by rw [hmi]; exact IntWalk.u64_in _ (by omega)
            clear hmi
            go_wp2_with (go_at_call 55; refine (binary_any m d _ (by omega) (by omega)).mono ?_; rintro e w3 ⟨rfl, hbb⟩; have hd3 := cell_step hd1 hbb; have hf3 := (hbb.frozen (p := ⟨w1.heap.size, p, none⟩) (World.block_lt_of_cell? _ _ hd1)).trans hf; have hown3 := (HST.out _ (ownsRow_below hown hbb)).1; have hb3 := (hb.trans (hbb.mono hb.size)).setCell (p := ⟨w1.heap.size, p, none⟩) (Nat.le_refl _) (.string ⟨(digs m d).toArray⟩))
            go_roundw
            case rel => exact ⟨k + 1, by omega, by go_num, by show _ = Value.int .u64 ((wnum xs (cord xs) k : Nat) : Int); rw [HM.out], by show _ = Value.int .i64 (lenAt xs (cord xs) k); rw [HLK.out], by rw [HWS.out, List.map_set]; exact hown3, hb3⟩
            case measure => simp [intOf]; omega
        · obtain rfl : n = k := by omega
          go_wp2
          go_ret
          exact RetSl.of (f := id) (ownsRow_base (by unfold wordsL; rw [HN.out]; exact hown) (by omega)) (HBW.out.trans (hb.mono (by omega)))

end Go.Proofs.YtmconcfgldiceaaDoor
