/- Letters read back from their words: the reference's contract. -/
import Derived.Test.YtmconcfgldiceaaDoorDec2
import Derived.Test.YtmconcfgldiceaaDoorHrc
namespace Go.Proofs.YtmconcfgldiceaaDoor
set_option linter.unusedSimpArgs false
set_option linter.unusedVariables false
open Go.RowKit

theorem run_cut_lh (l : List UInt8) (p n : Nat) (h : p + n ≤ l.length) (W : World) :
    (Instr.slice 9 (.string ⟨l.toArray⟩) (some (.int .i64 (p : Int))) (some (.int .i64 ((p : Int) + (n : Int)))) none).run Tryd.prog W = .ok (.string ⟨((l.drop p).take n).toArray⟩) W := by
  have h1 := run_slice_string (P := Tryd.prog) W 9 ⟨l.toArray⟩ .i64 .i64 (p : Int) ((p : Int) + (n : Int)) Tryd.underlying9 (by omega) (by omega) (by show (p : Int) + (n : Int) ≤ ((l.toArray.size : Nat) : Int); simp; omega)
  rw [h1, ByteArray.extract_mk, show ((p : Int) + (n : Int)).toNat = p + n by omega, show ((p : Int)).toNat = p by omega]
  simp [List.take_drop, Nat.add_comm]
theorem pre_take {u r : List UInt8} (h : u.length ≤ r.length) : u.isPrefixOf r = decide (r.take u.length = u) := by
  rw [Bool.eq_iff_iff, List.isPrefixOf_iff_prefix, List.prefix_iff_eq_take, decide_eq_true_iff]
  exact eq_comm

set_option maxHeartbeats 1000000 in
theorem begins_any (l : List UInt8) (p : Nat) (u : List UInt8) (w : World) (hp : p ≤ l.length) (hl : l.length ≤ 1048576) (hu : u.length ≤ 1048576) :
    Calls Tryd.prog 28 #[.string ⟨l.toArray⟩, .int .i64 (p : Int), .string ⟨u.toArray⟩] w fun e w' => e = .returned (.bool (u.isPrefixOf (l.drop p))) ∧ w = w' := by
  have e1 : IntKind.i64.wrap ((p : Int) + (u.length : Int)) = (p : Int) + (u.length : Int) := IntWalk.i64_in _ (by omega)
  by_cases h : p + u.length ≤ l.length
  · have hcut := run_cut_lh l p u.length h
    have hpt := Lib.hid (pre_take (u := u) (r := l.drop p) (by rw [List.length_drop]; omega))
    have k1 : (p : Int) + (u.length : Int) ≤ (l.length : Int) := by omega
    obtain ⟨res, hres⟩ : ∃ res, res = u.isPrefixOf (l.drop p) := ⟨_, rfl⟩
    rw [← hres] at hpt ⊢
    clear hres
    generalize (l.drop p).take u.length = z at *
    by_cases hz : z = u
    · have HR : Hid (res = true) := by show res = _; rw [hpt.out]; exact decide_eq_true hz
      subst hz
      clear hpt
      go_enter Tryd.func28, Tryd.ntmps28
      go_wp2
      go_ret
      exact ⟨ret_bool HR.out.symm, rfl⟩
    · have HR : Hid (res = false) := by show res = _; rw [hpt.out]; exact decide_eq_false hz
      clear hpt
      go_enter Tryd.func28, Tryd.ntmps28
      go_wp2
      go_ret
      exact ⟨ret_bool (by rw [HR.out]; simpa using hz), rfl⟩
  · have HR : Hid (u.isPrefixOf (l.drop p) = false) := by
      show _ = _
      rw [Bool.eq_false_iff]
      intro h2
      have := List.IsPrefix.length_le (List.isPrefixOf_iff_prefix.1 h2)
      rw [List.length_drop] at this
      omega
    have k1 : ¬ (p : Int) + (u.length : Int) ≤ (l.length : Int) := by omega
    generalize u.isPrefixOf (l.drop p) = res at *
    go_enter Tryd.func28, Tryd.ntmps28
    go_wp2
    go_ret
    exact ⟨ret_bool HR.out.symm, rfl⟩

set_option maxRecDepth 100000 in
set_option maxHeartbeats 4000000 in
theorem specDecode_any (w : World) (v : Value) (xs : List Int) (hv : SlR w v (xs.map (Value.int .i64))) (s : ByteArray) (hsl : s.size ≤ 1048576) :
    Calls Tryd.prog 18 #[.agg #[v], .string s] w (RetSl w 2 (out_DecodeLetters xs s).1.length ((out_DecodeLetters xs s).1.map (Value.int .i64)) (fun v => .tuple #[v, .bool (out_DecodeLetters xs s).2])) := by
  obtain ⟨i0, hi0, hz00, hz01, hz02⟩ := info_parts info_Int64S
  obtain ⟨l, hl⟩ : ∃ l, l = s.data.toList := ⟨_, rfl⟩
  obtain rfl : s = ⟨l.toArray⟩ := by rw [hl]
  have hsz : (ByteArray.mk l.toArray).size = l.length := by
    show l.toArray.size = _
    simp
  have hll : l.length ≤ 1048576 := by omega
  clear hsz
  have hsd : (ByteArray.mk l.toArray).data.toList = l := by simp
  clear hl hsl
  obtain ⟨W0, hW0⟩ : ∃ W0, W0 = w.alloc (.cells #[v] 39) := ⟨_, rfl⟩
  have hb0 : Below w.heap.size w W0 := by rw [hW0]; go_grown
  have hsz0 : W0.heap.size = w.heap.size + 1 := by rw [hW0]; simp
  have hc0 : W0.cell? ⟨w.heap.size, 0, none⟩ = some v := by rw [hW0]; go_cell
  have hv0 := hv.below hb0
  cases ht : validC xs
  · rw [outDL_no1 ht]
    have HT := Lib.hid ht
    have HB := Lib.hid hb0
    clear ht hsd
    go_enter Tryd.func18, Tryd.ntmps18
    go_wp2_with fail
    rw [← hW0]
    clear hW0
    go_wp2_with (go_at_call 32; refine (l04Is_any _ _ xs _ hc0 hv0).mono ?_; rw [HT.out]; rintro e w1 ⟨rfl, hq⟩)
    go_ret2
    exact ⟨none, 0, rfl, World.ownsRow_nil _ _ _ _, HB.out.trans (hq.below _)⟩
  · cases hbk : bitsOk l
    · rw [outDL_no2 (by rw [hsd]; exact hbk)]
      have HT := Lib.hid ht
      have HK := Lib.hid hbk
      have HB := Lib.hid hb0
      clear ht hbk hsd
      go_enter Tryd.func18, Tryd.ntmps18
      go_wp2_with fail
      rw [← hW0]
      clear hW0
      go_wp2_with (first
        | (go_at_call 25; refine (l04Text_any l _ hll).mono ?_; rw [HK.out]; rintro e w2 ⟨rfl, rfl⟩)
        | (go_at_call 32; refine (l04Is_any _ _ xs _ hc0 hv0).mono ?_; rw [HT.out]; rintro e w1 ⟨rfl, hq⟩))
      go_ret2
      exact ⟨none, 0, rfl, World.ownsRow_nil _ _ _ _, HB.out.trans (hq.below _)⟩
    · rw [outDL_yes ht (by rw [hsd]; exact hbk), hsd]
      have hl5 := bits_len hbk
      obtain ⟨p1, p2, -, -⟩ := vC_parts ht
      have HNE := Lib.hid (words_nem ht)
      have HWL := Lib.hid (fun n => wbx_len ht n)
      have HWN := Lib.hid (wordsL_length xs)
      have HW : Hid (∀ W g, W.cell? ⟨g, 0, none⟩ = some v → SlR W v (xs.map (Value.int .i64)) → Calls Tryd.prog 33 #[.pointer (some ⟨g, 0, none⟩)] W (RetSl W 9 xs.length ((wordsL xs).map Value.string) id)) := by
        show ∀ W g, _
        intro W g hg hW
        exact l04Words_any g v xs W hg hW ht
      have HT := Lib.hid ht
      have HK := Lib.hid hbk
      have HB := Lib.hid hb0
      generalize wordsL xs = ws at *
      obtain ⟨N, hN⟩ : ∃ N, N = xs.length := ⟨_, rfl⟩
      rw [← hN] at p1 p2 HWN HW
      obtain ⟨o, ho⟩ : ∃ o, o = dcR ws l := ⟨_, rfl⟩
      rw [← ho]
      have HO := Lib.hid ho
      clear ht hbk hsd hN ho
      go_enter Tryd.func18, Tryd.ntmps18
      go_wp2_with fail
      rw [← hW0]
      clear hW0
      go_wp2_with (first
        | (go_at_call 33; refine (HW.out _ _ hc1 hv1).mono ?_; rintro e w3 ⟨a2, c2, rfl, ho2, hb3⟩)
        | (go_at_call 25; refine (l04Text_any l _ hll).mono ?_; rw [HK.out]; rintro e w2 ⟨rfl, rfl⟩)
        | (go_at_call 32; refine (l04Is_any _ _ xs _ hc0 hv0).mono ?_; rw [HT.out]; rintro e w1 ⟨rfl, hq⟩; have hb := hq.keep; have hv1 := hv0.below hb; have hc1 := cell_step hc0 hb))
      have q1 := hb.size
      have q3 := hb3.size
      obtain ⟨g, rfl, hg1, hg2⟩ := own_some ho2 p1
      have hBg : w.heap.size < g := by omega
      have hbw : Below w.heap.size w w3 := (HB.out.trans (hb.mono HB.out.size)).trans (hb3.mono (by omega))
      have c2' : (w3.alloc (.cells #[] 2)).ownsRow (w.heap.size + 1) 9 1 (.slice (some ⟨g, 0, none⟩) N c2) N (ws.map Value.string) := ownsRow_base (ho2.alloc _) (by omega)
      have c3 : (w3.alloc (.cells #[] 2)).ownsRow (g + 1) 2 1 (.slice (some ⟨w3.heap.size, 0, none⟩) 0 0) 0 [] := ownsRow_base (World.ownsRow_made w3 #[] 0 (Nat.le_refl _) (Nat.zero_le _) rfl) (by omega)
      have c4 : Below w.heap.size w (w3.alloc (.cells #[] 2)) := Below.alloc hbw hbw.size _
      clear hb hb3 hv0 hv1 hc0 hc1 ho2 hbw hb0 q1 q3 hg1 hq
      go_loopw [7, 8] (fun v' at' wr => ∃ n p : Nat, at' = .int .i64 (p : Int) ∧ p = (dcN ws l n).1 ∧ Hid (∀ j, j < n → ∃ k, fnd ws (l.drop (dcN ws l j).1) = some k) ∧
          wr.ownsRow (w.heap.size + 1) 9 1 (.slice (some ⟨g, 0, none⟩) N c2) N (ws.map Value.string) ∧ wr.ownsRow (g + 1) 2 1 v' (dcN ws l n).2.length ((dcN ws l n).2.map (Value.int .i64)) ∧ Below w.heap.size w wr ∧ g < wr.heap.size) (fun _ at' _ => l.length - (intOf at').toNat)
      case atStart => exact ⟨0, 0, rfl, rfl, Lib.hid (fun j hj => by omega), c2', c3, c4, by simp; omega⟩
      case round =>
        clear c2' c3 c4
        obtain ⟨n, p, rfl, hp, hs, hw, hL, hbw, hgw⟩ := hrel
        have hple := dcN_le (ws := ws) (l := l) n
        have hge := dcN_ge HNE.out n hs.out
        have hlen := dcN_len (ws := ws) (l := l) n
        have HEND := Lib.hid (dcR_end HNE.out hs.out)
        have HBAD := Lib.hid (dcR_bad HNE.out hs.out)
        have HSOME := Lib.hid (fun k => dcN_some (ws := ws) (l := l) (n := n) (k := k))
        have hlen5 : (dcN ws l n).2.length ≤ 512 := by omega
        rw [← hp] at hple hge HEND HBAD HSOME
        have HP := Lib.hid hp
        clear hp hlen hge
        obtain ⟨r, hr⟩ : ∃ r, r = l.drop p := ⟨_, rfl⟩
        rw [← hr] at HBAD HSOME
        have hdl : r.length = l.length - p := by rw [hr, List.length_drop]
        have HR := Lib.hid hr
        by_cases hpl : p < l.length
        · have hpi : (p : Int) < (l.length : Int) := by omega
          have HBG : Hid (∀ (W : World) (u : List UInt8), u.length ≤ 32 → Calls Tryd.prog 28 #[.string ⟨l.toArray⟩, .int .i64 (p : Int), .string ⟨u.toArray⟩] W fun e w' => e = .returned (.bool (u.isPrefixOf r)) ∧ W = w') := by
            show ∀ (W : World) (u : List UInt8), _
            intro W u hu
            rw [hr]
            exact begins_any l p u W hple hll (by omega)
          clear hr HEND
          go_wp2
          go_loop [9] (fun q => ∃ j : Nat, j ≤ N ∧ q = .int .i64 (j : Int) ∧ Hid (∀ i, i < j → pre ws r i = false)) (fun q => N - (intOf q).toNat)
          case atStart => exact ⟨0, Nat.zero_le _, rfl, Lib.hid (fun j hj => by omega)⟩
          case round =>
            obtain ⟨k, hk, rfl, hbe⟩ := hrel
            by_cases hkN : k < N
            · have hwk : (ws.map Value.string)[k]? = some (.string ⟨(wbx ws k).toArray⟩) := by
                rw [List.getElem?_map, ← wbx_eq, List.getElem?_eq_getElem (by rw [HWN.out]; exact hkN)]; rfl
              have hck := hw.cellAt k (by omega)
              rw [hwk] at hck
              have hcall := fun W => HBG.out W (wbx ws k) (HWL.out k)
              have hpre : (wbx ws k).isPrefixOf r = pre ws r k := rfl
              rw [hpre] at hcall
              have k1 : (k : Int) < (N : Int) := by omega
              cases hb : pre ws r k
              · rw [hb] at hcall
                have HCA := Lib.hid hcall
                have HBB := Lib.hid hb
                clear hb hcall hpre hwk
                generalize wbx ws k = u at *
                go_wp2_with (go_at_call 28; refine (HCA.out _).mono ?_; rintro e w1 ⟨rfl, rfl⟩)
                go_round
                case rel => exact ⟨k + 1, by omega, by go_num, Lib.hid (fun j hj => by
                  by_cases h : j = k
                  · rw [h]; exact HBB.out
                  · exact hbe.out j (by omega))⟩
                case measure => simp [intOf]; omega
              · rw [hb] at hcall
                have HCA := Lib.hid hcall
                have hf : fnd ws r = some k := fnd_some (by rw [HWN.out]; exact hkN) hb hbe.out
                have hk3 := List.IsPrefix.length_le (List.isPrefixOf_iff_prefix.1 (fnd_is hf).2)
                have hne := HNE.out k (by rw [HWN.out]; exact hkN)
                have HST := Lib.hid (HSOME.out k hf)
                have HS2 : Hid (∀ j, j < n + 1 → ∃ k, fnd ws (l.drop (dcN ws l j).1) = some k) := by
                  show ∀ j, _
                  intro j hj
                  by_cases hjn : j = n
                  · rw [hjn, ← HP.out, ← HR.out]; exact ⟨k, hf⟩
                  · exact hs.out j (by omega)
                have hkl := HWL.out k
                have kN : ¬ (k : Int) = (N : Int) := by omega
                have kNn : ¬ k = N := by omega
                clear hb hcall hpre hwk HSOME HBAD HO hf
                go_upto_region 13 with (first
                  | (go_at_call 28; refine (HCA.out _).mono ?_; rintro e w1 ⟨rfl, rfl⟩)
                  | (at_builtin; refine wpList_append_own _ rfl _ _ 22 rfl (g + 1) 2 i0 (.int .i64 0) 1 8 Tryd.underlying22 hi0 hz00 hz01 hz02 rfl (by decide) u7 _ _ rfl (hL.alloc _) ⟨(World.heap wr).size, 0, none⟩ 1 1 [.int .i64 (k : Int)] rfl rfl (cell_one_new _ _ _) (one_oneCell rfl) (by unfold maxLen; omega) (by omega) (by simp only [World.size_alloc]; have := hbw.size; omega) ?_; intro v1 w5 hL1 hgx _; have hb1 := app_below hbw (by have := hbw.size; omega) _ hgx hL (by omega)))
                clear hck
                have hw5 := list_keep hw _ hgx hL
                have hgs := hgx.size
                simp only [World.size_alloc] at hgs
                have hwk : (ws.map Value.string)[k]? = some (.string ⟨(wbx ws k).toArray⟩) := by
                  rw [List.getElem?_map, ← wbx_eq, List.getElem?_eq_getElem (by rw [HWN.out]; exact hkN)]; rfl
                have hck := hw5.cellAt k (by omega)
                rw [hwk] at hck
                have e1 : IntKind.i64.wrap ((p : Int) + ((wbx ws k).length : Int)) = ((p + (wbx ws k).length : Nat) : Int) := by rw [Int.natCast_add]; exact IntWalk.i64_in _ (by omega)
                clear hwk hgx hL hbw hw
                generalize wbx ws k = u at *
                go_wp2
                go_roundw
                case rel =>
                  refine ⟨n + 1, p + u.length, rfl, ?_, HS2, hw5, ?_, hb1, by omega⟩
                  · rw [HST.out]
                  · rw [HST.out]
                    dsimp only
                    rw [List.length_append, List.map_append]
                    exact hL1
                case measure => simp [intOf]; omega
            · obtain rfl : N = k := by omega
              have hf : fnd ws r = none := fnd_none (fun j hj => hbe.out j (by rw [HWN.out] at hj; exact hj))
              have HRES := Lib.hid (HO.out.trans (HBAD.out hpl hf))
              clear hf
              go_wp2
              go_ret2
              rw [HRES.out]
              exact ⟨none, 0, rfl, World.ownsRow_nil _ _ _ _, hbw⟩
        · have hp2 : p = l.length := by omega
          have hpi : ¬ (p : Int) < (l.length : Int) := by omega
          have HRES := Lib.hid (HO.out.trans (HEND.out hp2))
          clear hp2 hdl hr HEND HBAD HSOME HO hple hpl
          go_wp2
          go_ret2
          rw [HRES.out]
          dsimp only
          obtain ⟨a', c', rfl⟩ := ownsRow_shape hL
          exact ⟨a', c', rfl, ownsRow_base hL (by omega), hbw⟩
theorem spec_DecodeLetters (w : World) (v : Value) (xs : List Int) (hv : SlR w v (xs.map (Value.int .i64))) (_ : ∀ x ∈ xs, I64 x) (_ : xs.length ≤ 1048576) (s : ByteArray) (_ : s.size ≤ 9223372036854775807) (hsl : s.size ≤ 1048576) :
    Calls Tryd.prog 18 #[.agg #[v], .string s] w (RetRd w (out_DecodeLetters xs s).1.length ((out_DecodeLetters xs s).1.map (Value.int .i64)) (fun v => .tuple #[v, .bool (out_DecodeLetters xs s).2])) :=
  (specDecode_any w v xs hv s hsl).mono fun _ _ h => h.rd

end Go.Proofs.YtmconcfgldiceaaDoor
