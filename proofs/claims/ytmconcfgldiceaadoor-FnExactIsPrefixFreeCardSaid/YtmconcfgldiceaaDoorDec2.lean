/- Letters read back from their words: the program's contract. -/
import Derived.Test.YtmconcfgldiceaaDoorDec
import Derived.Test.YtmconcfgldiceaaDoorHar
import Derived.IntWalk
namespace Go.Proofs.YtmconcfgldiceaaDoor
set_option linter.unusedSimpArgs false
set_option linter.unusedVariables false
open Go.RowKit
theorem outDL_no1 {xs : List Int} {s : ByteArray} (h : validC xs = false) : out_DecodeLetters xs s = ([], false) := by unfold out_DecodeLetters; rw [h]; rfl
theorem outDL_no2 {xs : List Int} {s : ByteArray} (h : bitsOk s.data.toList = false) : out_DecodeLetters xs s = ([], false) := by unfold out_DecodeLetters; rw [h, Bool.and_false]; rfl
theorem outDL_yes {xs : List Int} {s : ByteArray} (h : validC xs = true) (h2 : bitsOk s.data.toList = true) : out_DecodeLetters xs s = dcR (wordsL xs) s.data.toList := by unfold out_DecodeLetters; rw [h, h2]; rfl
theorem ba_eta (s : ByteArray) : (⟨s.data.toList.toArray⟩ : ByteArray) = s := by cases s; simp
theorem bits_len {l : List UInt8} (h : bitsOk l = true) : l.length ≤ 512 := by
  unfold bitsOk at h; simp only [Bool.and_eq_true, decide_eq_true_eq] at h; exact h.1
theorem dcR_len (ws : List ByteArray) (l : List UInt8) : (dcR ws l).1.length ≤ l.length := by
  unfold dcR
  split
  · exact dcN_len _
  · exact Nat.zero_le _
theorem len_DecodeLetters (xs : List Int) (_ : ∀ x ∈ xs, I64 x) (_ : xs.length ≤ 1048576) (s : ByteArray) (_ : s.size ≤ 9223372036854775807) (hl : s.size ≤ 1048576) : (out_DecodeLetters xs s).1.length ≤ 1048576 := by
  unfold out_DecodeLetters
  split
  · have := dcR_len (wordsL xs) s.data.toList
    have h2 : s.data.toList.length = s.data.size := by simp
    have h3 : s.size = s.data.size := rfl
    omega
  · exact Nat.zero_le _
theorem isE_false {r : List UInt8} (h : r ≠ []) : r.isEmpty = false := by cases r; exact absurd rfl h; rfl
theorem run_cut_l (l : List UInt8) (k : Nat) (h : k ≤ l.length) (W : World) :
    (Instr.slice 9 (.string ⟨l.toArray⟩) (some (.int .i64 (k : Int))) none none).run Tryd.prog W = .ok (.string ⟨(l.drop k).toArray⟩) W := by
  rw [run_slice_string_l (h0 := by omega) (h1 := by show (k : Int) ≤ ((l.toArray.size : Nat) : Int); simp; omega)]
  · rw [show (ByteArray.mk l.toArray).size = l.toArray.size from rfl, ByteArray.extract_mk, List.take_of_length_le (by simp)]
    rfl
  · exact Tryd.underlying9
def bitsAt (w : World) (b : Nat) : Nat := match w.cell? ⟨b, 0, none⟩ with | some (.string s) => s.size | _ => 0
theorem bitsAt_is {w : World} {b : Nat} {r : List UInt8} (h : w.cell? ⟨b, 0, none⟩ = some (.string ⟨r.toArray⟩)) : bitsAt w b = r.length := by
  unfold bitsAt; rw [h]; show r.toArray.size = _; simp

set_option maxRecDepth 100000 in
set_option maxHeartbeats 4000000 in
theorem impl_DecodeLetters (w : World) (v : Value) (xs : List Int) (hv : SlR w v (xs.map (Value.int .i64))) (_ : ∀ x ∈ xs, I64 x) (_ : xs.length ≤ 1048576) (s : ByteArray) (_ : s.size ≤ 9223372036854775807) (hsl : s.size ≤ 1048576) :
    Calls Tryd.prog 20 #[.agg #[v], .string s] w (RetSl w 2 (out_DecodeLetters xs s).1.length ((out_DecodeLetters xs s).1.map (Value.int .i64)) (fun v => .tuple #[v, .bool (out_DecodeLetters xs s).2])) := by
  obtain ⟨i0, hi0, hz00, hz01, hz02⟩ := info_parts info_Int64S
  obtain ⟨l, hl⟩ : ∃ l, l = s.data.toList := ⟨_, rfl⟩
  obtain rfl : s = ⟨l.toArray⟩ := by rw [hl]
  have hsz : (ByteArray.mk l.toArray).size = l.length := by
    show l.toArray.size = _
    simp
  have hll : l.length ≤ 1048576 := by omega
  clear hsz
  have hsd : (ByteArray.mk l.toArray).data.toList = l := by simp
  clear hl hsl
  obtain ⟨W0, hW0⟩ : ∃ W0, W0 = (w.alloc (.cells #[v] 39)).alloc (.cells #[.string ⟨l.toArray⟩] 9) := ⟨_, rfl⟩
  have hb0 : Below w.heap.size w W0 := by rw [hW0]; go_grown
  have hsz0 : W0.heap.size = w.heap.size + 2 := by rw [hW0]; simp
  have hc0 : W0.cell? ⟨w.heap.size, 0, none⟩ = some v := by rw [hW0]; go_cell
  have hd0 : W0.cell? ⟨w.heap.size + 1, 0, none⟩ = some (.string ⟨l.toArray⟩) := by rw [hW0]; go_cell
  have hf0 : W0.frozen? ⟨w.heap.size + 1, 0, none⟩ = false := by rw [hW0, show w.heap.size + 1 = (w.alloc (.cells #[v] 39)).heap.size by simp, World.frozen?_alloc_at]; simp
  have hv0 := hv.below hb0
  cases ht : validC xs
  · rw [outDL_no1 ht]
    have HT := Lib.hid ht
    have HB := Lib.hid hb0
    clear ht hsd
    go_enter Tryd.func20, Tryd.ntmps20
    go_wp2_with fail
    rw [← hW0]
    clear hW0
    go_wp2_with (go_at_call 35; refine (implValidCode_any _ xs _ hv0).mono ?_; rw [HT.out]; rintro e w1 ⟨rfl, hb⟩)
    go_ret2
    exact ⟨none, 0, rfl, World.ownsRow_nil _ _ _ _, HB.out.trans (hb.mono HB.out.size)⟩
  · cases hbk : bitsOk l
    · rw [outDL_no2 (by rw [hsd]; exact hbk)]
      have HT := Lib.hid ht
      have HK := Lib.hid hbk
      have HB := Lib.hid hb0
      clear ht hbk hsd
      go_enter Tryd.func20, Tryd.ntmps20
      go_wp2_with fail
      rw [← hW0]
      clear hW0
      go_wp2_with (first
        | (go_at_call 26; refine (isBits_any l _ hll).mono ?_; rw [HK.out]; rintro e w2 ⟨rfl, hb2⟩)
        | (go_at_call 35; refine (implValidCode_any _ xs _ hv0).mono ?_; rw [HT.out]; rintro e w1 ⟨rfl, hb⟩; have hd1 := cell_step hd0 hb))
      go_ret2
      exact ⟨none, 0, rfl, World.ownsRow_nil _ _ _ _, (HB.out.trans (hb.mono HB.out.size)).trans (hb2.mono (HB.out.trans (hb.mono HB.out.size)).size)⟩
    · rw [outDL_yes ht (by rw [hsd]; exact hbk), hsd]
      have hl5 := bits_len hbk
      obtain ⟨p1, p2, -, -⟩ := vC_parts ht
      have HNE := Lib.hid (words_nem ht)
      have HWL := Lib.hid (fun n => wbx_len ht n)
      have HWN := Lib.hid (wordsL_length xs)
      have HW : Hid (∀ W, SlR W v (xs.map (Value.int .i64)) → Calls Tryd.prog 36 #[.agg #[v]] W (RetSl W 9 xs.length ((wordsL xs).map Value.string) id)) := by
        show ∀ W, _
        intro W hW
        exact words_any v xs W hW ht
      have HT := Lib.hid ht
      have HK := Lib.hid hbk
      have HB := Lib.hid hb0
      generalize wordsL xs = ws at *
      obtain ⟨N, hN⟩ : ∃ N, N = xs.length := ⟨_, rfl⟩
      rw [← hN] at p1 p2 HWN HW
      obtain ⟨o, ho⟩ : ∃ o, o = dcR ws l := ⟨_, rfl⟩
      rw [← ho]
      have HO := Lib.hid ho
      clear ht hbk hsd hN ho
      go_enter Tryd.func20, Tryd.ntmps20
      go_wp2_with fail
      rw [← hW0]
      clear hW0
      go_wp2_with (first
        | (go_at_call 36; refine (HW.out _ hv2).mono ?_; rintro e w3 ⟨a2, c2, rfl, ho2, hb3⟩)
        | (go_at_call 26; refine (isBits_any l _ hll).mono ?_; rw [HK.out]; rintro e w2 ⟨rfl, hb2⟩; have hv2 := hv1.below hb2; have hc2 := cell_step hc1 hb2; have hd2 := cell_step hd1 hb2)
        | (go_at_call 35; refine (implValidCode_any _ xs _ hv0).mono ?_; rw [HT.out]; rintro e w1 ⟨rfl, hb⟩; have hv1 := hv0.below hb; have hd1 := cell_step hd0 hb; have hc1 := cell_step hc0 hb))
      have q1 := hb.size
      have q2 := hb2.size
      have q3 := hb3.size
      obtain ⟨g, rfl, hg1, hg2⟩ := own_some ho2 p1
      have hBg : w.heap.size + 1 < g := by omega
      have hd3 := cell_step hd2 hb3
      have hfz : w3.frozen? ⟨w.heap.size + 1, 0, none⟩ = false := ((hb3.frozen (p := ⟨w.heap.size + 1, 0, none⟩) (show w.heap.size + 1 < w2.heap.size by omega)).trans ((hb2.frozen (p := ⟨w.heap.size + 1, 0, none⟩) (show w.heap.size + 1 < w1.heap.size by omega)).trans ((hb.frozen (p := ⟨w.heap.size + 1, 0, none⟩) (show w.heap.size + 1 < W0.heap.size by omega)).trans hf0)))
      have hbw : Below w.heap.size w w3 := ((HB.out.trans (hb.mono HB.out.size)).trans (hb2.mono (by omega))).trans (hb3.mono (by omega))
      have c0 : (w3.alloc (.cells #[] 2)).cell? ⟨w.heap.size + 1, 0, none⟩ = some (.string ⟨l.toArray⟩) := cell_step hd3 (by go_grown)
      have c1 : (w3.alloc (.cells #[] 2)).frozen? ⟨w.heap.size + 1, 0, none⟩ = false := (Below.frozen (B := w3.heap.size) (by go_grown) (p := ⟨w.heap.size + 1, 0, none⟩) (show w.heap.size + 1 < w3.heap.size by omega)).trans hfz
      have c2' : (w3.alloc (.cells #[] 2)).ownsRow (w.heap.size + 2) 9 1 (.slice (some ⟨g, 0, none⟩) N c2) N (ws.map Value.string) := ownsRow_base (ho2.alloc _) (by omega)
      have c3 : (w3.alloc (.cells #[] 2)).ownsRow (g + 1) 2 1 (.slice (some ⟨w3.heap.size, 0, none⟩) 0 0) 0 [] := ownsRow_base (World.ownsRow_made w3 #[] 0 (Nat.le_refl _) (Nat.zero_le _) rfl) (by omega)
      have c4 : Below w.heap.size w (w3.alloc (.cells #[] 2)) := Below.alloc hbw hbw.size _
      clear hb hb2 hb3 hv0 hv1 hv2 hc0 hc1 hc2 hd0 hd1 hd2 hd3 hf0 hfz ho2 hbw hb0 q1 q2 q3 hg1
      go_loopw [7] (fun v' wr => ∃ n : Nat, Hid (∀ j, j < n → ∃ k, fnd ws (l.drop (dcN ws l j).1) = some k) ∧ wr.cell? ⟨w.heap.size + 1, 0, none⟩ = some (.string ⟨(l.drop (dcN ws l n).1).toArray⟩) ∧ wr.frozen? ⟨w.heap.size + 1, 0, none⟩ = false ∧
          wr.ownsRow (w.heap.size + 2) 9 1 (.slice (some ⟨g, 0, none⟩) N c2) N (ws.map Value.string) ∧ wr.ownsRow (g + 1) 2 1 v' (dcN ws l n).2.length ((dcN ws l n).2.map (Value.int .i64)) ∧ Below w.heap.size w wr ∧ g < wr.heap.size) (fun _ wr => bitsAt wr (w.heap.size + 1))
      case atStart => exact ⟨0, Lib.hid (fun j hj => by omega), c0, c1, c2', c3, c4, by simp; omega⟩
      case round =>
        clear c0 c1 c2' c3 c4
        obtain ⟨n, hs, hcell, hfz, hw, hL, hbw, hgw⟩ := hrel
        have hple := dcN_le (ws := ws) (l := l) n
        have hge := dcN_ge HNE.out n hs.out
        have hlen := dcN_len (ws := ws) (l := l) n
        have hdl : (l.drop (dcN ws l n).1).length = l.length - (dcN ws l n).1 := List.length_drop
        have HEND := Lib.hid (dcR_end HNE.out hs.out)
        have HBAD := Lib.hid (dcR_bad HNE.out hs.out)
        have HSOME := Lib.hid (fun k => dcN_some (ws := ws) (l := l) (n := n) (k := k))
        obtain ⟨r, hr⟩ : ∃ r, r = l.drop (dcN ws l n).1 := ⟨_, rfl⟩
        rw [← hr] at hcell hdl HBAD HSOME
        have HR := Lib.hid hr
        by_cases he : r = []
        · have hre : r.isEmpty = true := by rw [he]; rfl
          have hp : (dcN ws l n).1 = l.length := by rw [he, List.length_nil] at hdl; omega
          have HRES := Lib.hid (HO.out.trans (HEND.out hp))
          clear hp hdl hr HEND HBAD HSOME HO hple hge hlen he
          go_wp2
          go_ret2
          rw [HRES.out]
          dsimp only
          obtain ⟨a', c', rfl⟩ := ownsRow_shape hL
          exact ⟨a', c', rfl, ownsRow_base hL (by omega), hbw⟩
        · have hre := isE_false he
          have hpl : (dcN ws l n).1 < l.length := by
            rcases Nat.lt_or_ge (dcN ws l n).1 l.length with h | h
            · exact h
            · exact absurd (List.eq_nil_of_length_eq_zero (by rw [hdl]; omega)) he
          cases hf : fnd ws r
          · have HRES := Lib.hid (HO.out.trans (HBAD.out hpl hf))
            have HI := Lib.hid (idxHead_any _ ws _ r wr (SlR.own hw) hcell)
            rw [hf] at HI
            clear hdl hr HEND HBAD HSOME HO hple hge hlen he hf hpl
            go_wp2_with (go_at_call 37; refine HI.out.mono ?_; rintro e w4 ⟨rfl, rfl⟩)
            go_ret2
            rw [HRES.out]
            exact ⟨none, 0, rfl, World.ownsRow_nil _ _ _ _, hbw⟩
          · rename_i k
            have HI := Lib.hid (idxHead_any _ ws _ r wr (SlR.own hw) hcell)
            rw [hf, show fndI (some k) = (k : Int) from rfl] at HI
            obtain ⟨hk1, hk2⟩ := fnd_is hf
            rw [HWN.out] at hk1
            have hk3 := List.IsPrefix.length_le (List.isPrefixOf_iff_prefix.1 hk2)
            have hne := HNE.out k (by rw [HWN.out]; exact hk1)
            have HST := Lib.hid (HSOME.out k hf)
            have HS2 : Hid (∀ j, j < n + 1 → ∃ k, fnd ws (l.drop (dcN ws l j).1) = some k) := by
              show ∀ j, _
              intro j hj
              by_cases hjn : j = n
              · rw [hjn, ← HR.out]; exact ⟨k, hf⟩
              · exact hs.out j (by omega)
            have hki : ¬ (k : Int) < 0 := by omega
            clear hdl hr HEND HBAD HSOME HO he hf hk2
            have hlen5 : (dcN ws l n).2.length ≤ 512 := by omega
            go_upto_region 10 with (first
              | (go_at_call 37; refine HI.out.mono ?_; rintro e w4 ⟨rfl, rfl⟩)
              | (at_builtin; refine wpList_append_own _ rfl _ _ 22 rfl (g + 1) 2 i0 (.int .i64 0) 1 8 Tryd.underlying22 hi0 hz00 hz01 hz02 rfl (by decide) u7 _ _ rfl (hL.alloc _) ⟨(World.heap wr).size, 0, none⟩ 1 1 [.int .i64 (k : Int)] rfl rfl (cell_one_new _ _ _) (one_oneCell rfl) (by unfold maxLen; omega) (by omega) (by simp only [World.size_alloc]; have := hbw.size; omega) ?_; intro v1 w5 hL1 hgx _; have hb1 := app_below hbw (by have := hbw.size; omega) _ hgx hL (by omega)))
            have hne2 : ∀ q, u7.ownBlock = some q → q ≠ w.heap.size + 1 := fun q hq => by have := own_grown_lt hL q hq; omega
            have hcell5 := cell_grown (a := ⟨w.heap.size + 1, 0, none⟩) (cell_step hcell (Below.alloc (Below.refl _ _) (Nat.le_refl _) _)) hgx hne2
            have hfz5 := (World.frozen?_of_block (a := ⟨w.heap.size + 1, 0, none⟩) (hgx.block (w.heap.size + 1) (by simp only [World.size_alloc]; omega) (fun e => hne2 _ e.symm rfl))).trans ((Below.frozen (Below.alloc (Below.refl wr.heap.size wr) (Nat.le_refl _) _) (p := ⟨w.heap.size + 1, 0, none⟩) (show w.heap.size + 1 < wr.heap.size by omega)).trans hfz)
            have hw5 := list_keep hw _ hgx hL
            have hgs := hgx.size
            simp only [World.size_alloc] at hgs
            have hwk : (ws.map Value.string)[k]? = some (.string ⟨(wbx ws k).toArray⟩) := by
              rw [List.getElem?_map, ← wbx_eq, List.getElem?_eq_getElem (by rw [HWN.out]; exact hk1)]; rfl
            have hck := hw5.cellAt k (by omega)
            rw [hwk] at hck
            have HDR : Hid (r.drop (wbx ws k).length = l.drop ((dcN ws l n).1 + (wbx ws k).length)) := by
              show _ = _
              rw [HR.out, List.drop_drop]
            have hcut := run_cut_l r (wbx ws k).length hk3
            have hkl := HWL.out k
            have k1 : (k : Int) < (N : Int) := by omega
            clear hwk hgx hL hbw hw hfz
            generalize wbx ws k = u at *
            obtain ⟨r2, hr2⟩ : ∃ r2, r2 = r.drop u.length := ⟨_, rfl⟩
            rw [← hr2] at hcut HDR
            have hr2l : r2.length < r.length := by rw [hr2, List.length_drop]; omega
            clear hr2
            go_region
            all_goals
              go_wp2
              go_roundw
              case rel =>
                refine ⟨n + 1, HS2, ?_, ?_, ?_, ?_, ?_, ?_⟩
                · rw [HST.out]
                  dsimp only
                  rw [← HDR.out]
                  exact World.cell?_setCell_same w5 _ _ hcell5
                · exact (World.frozen?_setCell w5 _ _ _).trans hfz5
                · exact ownsRow_setCell_below hw5 (show w.heap.size + 1 < w.heap.size + 2 by omega) _
                · rw [HST.out]
                  dsimp only
                  rw [List.length_append, List.map_append]
                  exact ownsRow_setCell_below hL1 (show w.heap.size + 1 < g + 1 by omega) _
                · exact Below.drew (hb1.setCell (p := ⟨w.heap.size + 1, 0, none⟩) (show w.heap.size ≤ w.heap.size + 1 by omega) _)
                · show g < (w5.setCell _ _).heap.size
                  rw [World.size_setCell]
                  omega
              case measure =>
                rw [bitsAt_is hcell]
                exact Nat.lt_of_le_of_lt (Nat.le_of_eq (bitsAt_is (w := (w5.setCell ⟨w.heap.size + 1, 0, none⟩ (.string ⟨r2.toArray⟩)).drew) (r := r2) (World.cell?_setCell_same w5 _ _ hcell5))) hr2l

end Go.Proofs.YtmconcfgldiceaaDoor
