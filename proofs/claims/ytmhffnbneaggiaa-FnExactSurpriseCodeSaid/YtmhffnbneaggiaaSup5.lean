/- Surprise codes: the reference's contract. -/
import Derived.Test.YtmhffnbneaggiaaSup4
namespace Go.Proofs.Ytmhffnbneaggiaa
set_option linter.unusedSimpArgs false
set_option linter.unusedVariables false
open Go.RowKit

set_option maxRecDepth 100000 in
set_option maxHeartbeats 4000000 in
theorem spec_SurpriseCode (w : World) (v : Value) (xs : List Nat) (hv : SlR w v (xs.map (Value.float .f32))) (hx : ∀ x ∈ xs, x < 4294967296) (_ : xs.length ≤ 1048576) :
    Calls Try.prog 37 #[v] w (RetRd w (out_SurpriseCode xs).1.length ((out_SurpriseCode xs).1.map (Value.int .i64)) (fun v => .tuple #[.agg #[v], .bool (out_SurpriseCode xs).2])) := by
  obtain ⟨i0, hi0, hz00, hz01, hz02⟩ := info_parts info_Int64S
  obtain ⟨res, hres⟩ : ∃ res, res = out_SurpriseCode xs := ⟨_, rfl⟩
  rw [← hres]
  have HX := Lib.hid hx
  clear hx
  obtain ⟨W0, hW0⟩ : ∃ W0, W0 = w.alloc (.cells #[.slice none 0 0] 24) := ⟨_, rfl⟩
  have hb0 : Below w.heap.size w W0 := by rw [hW0]; go_grown
  have hv1 := hv.below hb0
  have c0 : W0.cell? ⟨w.heap.size, 0, none⟩ = some (.slice none 0 0) := by rw [hW0]; go_cell
  have hD : W0.frozen? ⟨w.heap.size, 0, none⟩ = false := by rw [hW0]; simp
  have hsz : w.heap.size < W0.heap.size := by rw [hW0]; simp
  have KEEP : Hid (∀ W, Below W0.heap.size W0 W → W.cell? ⟨w.heap.size, 0, none⟩ = some (.slice none 0 0) ∧ W.frozen? ⟨w.heap.size, 0, none⟩ = false) := by
    intro W hW
    exact ⟨cell_step c0 hW, (hW.frozen (p := ⟨w.heap.size, 0, none⟩) hsz).trans hD⟩
  have ZERO : Hid (∀ W, Below W0.heap.size W0 W → RetRd w (([], false) : List Int × Bool).1.length ((([], false) : List Int × Bool).1.map (Value.int .i64)) (fun v => .tuple #[.agg #[v], .bool false]) (.returned (.tuple #[.agg #[.slice none 0 0], .bool false])) (W.setCell ⟨w.heap.size, 0, none⟩ (.slice none 0 0))) := by
    intro W hW
    exact ⟨none, 0, rfl, SlR.nil _, (hb0.trans (hW.mono (Nat.le_of_lt hsz))).setCell (p := ⟨w.heap.size, 0, none⟩) (Nat.le_refl _) _⟩
  obtain ⟨a, n, c, rfl, hnl, hnc, hcm, hcell⟩ := SlR.opened 0 hv1
  unfold maxLen at hcm
  have hn9 : n ≤ 9223372036854775807 := by omega
  have HCL := Lib.hid hcell
  have HB0 := Lib.hid hb0
  have HSZ := Lib.hid hsz
  clear hnc hcm hcell hb0 hsz
  generalize hr : rowB xs = r
  have HRW := Lib.hid hr
  cases r
  · have HR : Hid (res = ([], false)) := by show res = _; rw [hres, outSC_no (by rw [scOk, hr]; rfl)]
    clear hres hnl hr hv
    go_enter Try.func37, Try.ntmps37
    go_wp2_with fail
    rw [← hW0]
    clear hW0
    go_wp2_with (go_at_call 71; refine (l02Row_any _ xs _ hv1 HX.out).mono ?_; rw [HRW.out]; rintro e w1 ⟨rfl, hq⟩; have hb1 := hq.keep; obtain ⟨e0, z0⟩ := KEEP.out _ hb1)
    refine bodyPost_ret (v := .tuple #[.agg #[.slice none 0 0], .bool false]) (by simp [results, Try.results37, go_sem, *]) rfl ?_
    rw [HR.out]
    exact ZERO.out _ hb1
  · have HCH : Hid (∀ k, k < n → Ch (xs[k]?.getD 0)) := by
      show ∀ k, _
      intro k hk
      rw [List.getElem?_eq_getElem (by omega)]
      exact rowB_chs hr _ (List.getElem_mem _)
    have HBAD : Hid (∀ k, k < n → (su (xs[k]?.getD 0)).2 = false → res = ([], false)) := by
      show ∀ k, _
      intro k hk hf
      have : xs.all (fun x => (su x).2) = false := all_false_of xs _ k 0 (by omega) hf
      rw [hres, outSC_no (by rw [scOk, this]; simp)]
    have HGOOD : Hid (xs.all (fun x => (su x).2) = true → validC (longs2 xs) = true → res = (longs2 xs, true)) := by
      intro h h2
      rcases longs_same xs with ⟨g1, g2⟩ | ⟨_, g2⟩
      · rw [hres, outSC_yes (by rw [scOk, hr, h, g1]; rfl), g2]
      · rw [h2] at g2; cases g2
    have HNO : Hid (validC (longs2 xs) = false → res = ([], false)) := by
      intro h
      rcases longs_same xs with ⟨g1, g2⟩ | ⟨g1, _⟩
      · rw [g2, g1] at h; cases h
      · rw [hres, outSC_no (by rw [scOk, g1]; simp)]
    have HN16 : Hid (¬ n ≤ 16 → res = ([], false)) := by
      intro h
      have hf : validC (longs1 xs) = false := by
        cases hv : validC (longs1 xs)
        · rfl
        · exfalso
          have p2 := (vC_parts hv).2.1
          unfold longs1 at p2
          rw [List.length_map] at p2
          omega
      rw [hres, outSC_no (by rw [scOk, hf]; simp)]
    have HS : Hid (∀ k, k < n → (longs2 (xs.take k)).map (Value.int .i64) ++ [.int .i64 (long2 (xs[k]?.getD 0) : Int)] = (longs2 (xs.take (k + 1))).map (Value.int .i64)) := fun k hk => longs_succ long2 xs k (by omega)
    have HAS : Hid (∀ k, k < n → (xs.take (k + 1)).all (fun x => (su x).2) = ((xs.take k).all (fun x => (su x).2) && (su (xs[k]?.getD 0)).2)) := fun k hk => all_take_succ xs _ k 0 (by omega)
    have HALL : Hid (xs.take n = xs) := List.take_of_length_le (by omega)
    have hn32 : n ≤ 32 := by have := (rowB_one hr).2.1; omega
    have HN := Lib.hid hnl
    clear hres hnl hr hv
    by_cases h16 : n ≤ 16
    · have h6 : ¬ (16 : Int) < (n : Int) := by omega
      go_enter Try.func37, Try.ntmps37
      go_wp2_with fail
      rw [← hW0]
      clear hW0
      go_wp2_with (go_at_call 71; refine (l02Row_any _ xs _ hv1 HX.out).mono ?_; rw [HRW.out]; rintro e w1 ⟨rfl, hq⟩; have hb1 := hq.keep)
      have hown0 : (w1.alloc (.cells #[] 2)).ownsRow w1.heap.size 2 1 (.slice (some ⟨w1.heap.size, 0, none⟩) 0 0) 0 [] := World.ownsRow_made w1 #[] 0 (Nat.le_refl _) (Nat.zero_le _) rfl
      have hbb0 : Below w1.heap.size w1 (w1.alloc (.cells #[] 2)) := by go_grown
      have HB1 := Lib.hid hb1
      clear hq hb1 hv1 c0 hD
      go_loopw [4, 5] (fun o i wr => ∃ k : Nat, k ≤ n ∧ i = .int .i64 k ∧ wr.ownsRow w1.heap.size 2 1 o k ((longs2 (xs.take k)).map (Value.int .i64)) ∧ Below w1.heap.size w1 wr ∧ (xs.take k).all (fun x => (su x).2) = true) (fun _ i _ => n - (intOf i).toNat)
      case atStart => exact ⟨0, Nat.zero_le _, rfl, hown0, hbb0, rfl⟩
      case round =>
        clear hown0 hbb0
        obtain ⟨k, hk, rfl, hown, hb, hall⟩ := hrel
        have HA := Lib.hid hall
        clear hall
        have hbs := hb.size
        have hbW : Below W0.heap.size W0 wr := HB1.out.trans (hb.mono HB1.out.size)
        obtain ⟨e0, z0⟩ := KEEP.out _ hbW
        by_cases hlt : k < n
        · obtain ⟨bb, off, rfl, hc0, hbl⟩ := HCL.out k hlt
          rw [List.getD_eq_getElem?_getD] at hc0
          have hcc := (hbW.cell (p := ⟨bb, off + k, none⟩) hbl).trans hc0
          have HCK := Lib.hid (HCH.out k hlt)
          have HSK := Lib.hid (HS.out k hlt)
          have HAK := Lib.hid (HAS.out k hlt)
          have HBK := Lib.hid (HBAD.out k hlt)
          clear hc0
          generalize xs[k]?.getD 0 = x at *
          obtain ⟨⟨s, ok⟩, hsu⟩ : ∃ e, su x = e := ⟨_, rfl⟩
          have HSU := Lib.hid hsu
          rw [hsu] at HAK HBK
          dsimp only at HAK HBK
          cases ok
          · clear hsu
            go_wp2_with (go_at_call 72; refine (specSurpriseOf_any _ _ HCK.out).mono ?_; rw [HSU.out]; rintro e w2 ⟨rfl, hq2⟩; have hb2 := hbW.trans (hq2.below _); clear e0 z0; obtain ⟨e0, z0⟩ := KEEP.out _ hb2)
            refine bodyPost_ret (v := .tuple #[.agg #[.slice none 0 0], .bool false]) (by simp [results, Try.results37, go_sem, *]) rfl ?_
            rw [HBK.out trivial]
            exact ZERO.out _ hb2
          · obtain ⟨hs, h0, h1⟩ := su_true hsu
            have HL : Hid (upTo s 199 1 = long2 x) := by show _ = _; rw [hs]; rfl
            clear hsu hs h0 h1
            go_wp2_with (go_at_call 72; refine (specSurpriseOf_any _ _ HCK.out).mono ?_; rw [HSU.out]; rintro e w2 ⟨rfl, hq2⟩; have hb2 := hq2.keep; have hown2 := ownsRow_below hown hb2; have hbb2 := hb.trans (hq2.below _); have hbs2 := hbb2.size; clear e0 z0)
            go_loop [8] (fun q => ∃ m : Nat, m ≤ 200 ∧ q = .int .i64 m ∧ upTo s (200 - m) m = long2 x) (fun q => 200 - (intOf q).toNat)
            case atStart => exact ⟨1, by omega, rfl, HL.out⟩
            case round =>
              obtain ⟨m, hm, rfl, hu⟩ := hrel
              have HU := Lib.hid hu
              clear hu
              generalize hlb : ltB s m = lb
              have hord : (FloatKind.f32.format.order (floatOfInt .f32 (m : Int)) s == some .lt) = lb := hlb
              cases lb
              · have HM : Hid (long2 x = m) := by show _ = _; rw [← HU.out]; exact upTo_end hlb
                clear hlb
                go_wp2_with (at_builtin; refine wpList_append_own _ rfl _ _ 22 rfl w1.heap.size 2 i0 (.int .i64 0) 1 8 Try.underlying22 hi0 hz00 hz01 hz02 rfl (by decide) u4 _ _ rfl (hown2.alloc _) ⟨(World.heap w2).size, 0, none⟩ 1 1 [.int .i64 m] rfl rfl (cell_one_new _ _ _) (one_oneCell rfl) (by unfold maxLen; omega) (by omega) (by simp only [World.size_alloc]; have := hbb2.size; omega) ?_; intro v1 w3 hown3 hgx _; have hb4 := app_below hbb2 (by have := hbb2.size; omega) _ hgx hown2 (by omega))
                rw [← HM.out, HSK.out] at hown3
                go_roundw
                case rel => exact ⟨k + 1, by omega, by go_num, hown3, hb4, by rw [HAK.out, HA.out]; rfl⟩
                case measure => simp [intOf]; omega
              · by_cases hm2 : m < 200
                · have h200 : (m : Int) < 200 := by omega
                  have HU2 : Hid (upTo s (200 - (m + 1)) (m + 1) = long2 x) := by
                    show _ = _
                    rw [← HU.out, show 200 - m = (200 - (m + 1)) + 1 by omega]
                    exact (upTo_go hlb).symm
                  clear hlb
                  go_wp2
                  go_round
                  case rel => exact ⟨m + 1, by omega, by go_num, HU2.out⟩
                  case measure => simp [intOf]; omega
                · have h200 : ¬ (m : Int) < 200 := by omega
                  have HM : Hid (long2 x = m) := by show _ = _; rw [← HU.out, show 200 - m = 0 by omega]; rfl
                  clear hlb
                  go_wp2_with (at_builtin; refine wpList_append_own _ rfl _ _ 22 rfl w1.heap.size 2 i0 (.int .i64 0) 1 8 Try.underlying22 hi0 hz00 hz01 hz02 rfl (by decide) u4 _ _ rfl (hown2.alloc _) ⟨(World.heap w2).size, 0, none⟩ 1 1 [.int .i64 m] rfl rfl (cell_one_new _ _ _) (one_oneCell rfl) (by unfold maxLen; omega) (by omega) (by simp only [World.size_alloc]; have := hbb2.size; omega) ?_; intro v1 w3 hown3 hgx _; have hb4 := app_below hbb2 (by have := hbb2.size; omega) _ hgx hown2 (by omega))
                  rw [← HM.out, HSK.out] at hown3
                  go_roundw
                  case rel => exact ⟨k + 1, by omega, by go_num, hown3, hb4, by rw [HAK.out, HA.out]; rfl⟩
                  case measure => simp [intOf]; omega
        · obtain rfl : n = k := by omega
          have hg := HA.out
          rw [HALL.out] at hg hown
          obtain ⟨oa, oc, rfl⟩ := ownsRow_shape hown
          generalize hvc : validC (longs2 xs) = t
          have HVC := Lib.hid hvc
          have hso := SlR.own hown
          cases t
          · have HR := Lib.hid (HNO.out hvc)
            clear hvc hg e0 z0
            go_wp2_with (go_at_call 43; refine (l04Give_no _ _ _ hso HVC.out).mono ?_; rintro e w2 ⟨rfl, hb2⟩; have hbw2 := hbW.trans (hb2.mono hbW.size); obtain ⟨e0, z0⟩ := KEEP.out _ hbw2)
            refine bodyPost_ret (v := .tuple #[.agg #[.slice none 0 0], .bool false]) (by simp [results, Try.results37, go_sem, *]) rfl ?_
            rw [HR.out]
            exact ZERO.out _ hbw2
          · have HR := Lib.hid (HGOOD.out hg hvc)
            clear hvc hg e0 z0
            go_wp2_with (go_at_call 43; refine (l04Give_yes _ _ _ hso HVC.out).mono ?_; rintro e w2 ⟨rfl, hb2⟩; have hbw2 := hbW.trans (hb2.mono hbW.size); obtain ⟨e0, z0⟩ := KEEP.out _ hbw2)
            refine bodyPost_ret (v := .tuple #[.agg #[.slice oa n oc], .bool true]) (by simp [results, Try.results37, go_sem, *]) rfl ?_
            rw [HR.out]
            have e : (longs2 xs).length = n := by unfold longs2; rw [List.length_map, HN.out]
            dsimp only
            rw [e]
            have hlo : w.heap.size < w1.heap.size := Nat.lt_of_lt_of_le HSZ.out HB1.out.size
            exact RetSl.rd (RetSl.mk (f := fun v => .tuple #[.agg #[v], .bool true]) (ownsRow_base (ownsRow_setCell_below (ownsRow_below hown hb2) (a := ⟨w.heap.size, 0, none⟩) hlo _) (Nat.le_of_lt hlo)) ((HB0.out.trans (hbw2.mono (Nat.le_of_lt HSZ.out))).setCell (p := ⟨w.heap.size, 0, none⟩) (Nat.le_refl _) _))
    · have h6 : (16 : Int) < (n : Int) := by omega
      have HR := Lib.hid (HN16.out h16)
      go_enter Try.func37, Try.ntmps37
      go_wp2_with fail
      rw [← hW0]
      clear hW0
      go_wp2_with (go_at_call 71; refine (l02Row_any _ xs _ hv1 HX.out).mono ?_; rw [HRW.out]; rintro e w1 ⟨rfl, hq⟩; have hb1 := hq.keep; obtain ⟨e0, z0⟩ := KEEP.out _ hb1)
      refine bodyPost_ret (v := .tuple #[.agg #[.slice none 0 0], .bool false]) (by simp [results, Try.results37, go_sem, *]) rfl ?_
      rw [HR.out]
      exact ZERO.out _ hb1

end Go.Proofs.Ytmhffnbneaggiaa
