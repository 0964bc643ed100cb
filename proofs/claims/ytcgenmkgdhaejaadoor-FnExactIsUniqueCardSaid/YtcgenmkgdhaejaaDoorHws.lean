/- The harness of the laws for slices of texts. -/
import Derived.Test.YtcgenmkgdhaejaaDoorPfx3
import Derived.Test.YtcgenmkgdhaejaaDoorHar
import Derived.Test.YtcgenmkgdhaejaaDoorRd
namespace Go.Proofs.YtcgenmkgdhaejaaDoor
set_option linter.unusedSimpArgs false
set_option linter.unusedVariables false
open Go.RowKit
open Go.ChangeShapes Go.WideShapes Go.ChangeAt Go.Deep Go.Joins in
theorem rd_strs {H : Type} {enc : TypeId × Value → H} {P : Program} {W : World} {t e : TypeId} {fuel : Nat} {v : Value} {x : DataW H × List MemPlace} (ht : P.underlying t = some (.slice e)) (he : P.underlying e = some .string) (hc : P.cellsOf e = 1)
    (h : DataW.trod enc P W 0 (fun _ => true) true fuel t [v] = some x) :
    ∃ (a : Option Addr) (c : Nat) (xs : List ByteArray), v = .slice a xs.length c ∧ xs.length ≤ c ∧ c ≤ maxLen ∧ SlR W v (xs.map Value.string) ∧ ∀ z ∈ xs, z.size ≤ 9223372036854775807 :=
  rd_slice Value.string (fun z => z.size ≤ 9223372036854775807) ht hc (fun n u y hy => by
    obtain ⟨z, hz, _, hw⟩ := DataW.trod_string he hy
    simp only [List.cons.injEq, and_true] at hz
    exact ⟨z, hz, by unfold maxLen at hw; omega⟩) h

theorem info_StringS : (Tryd.prog.info? 9).map (fun i => (i.zero, i.size, i.bytes)) = some (some (.string ⟨#[]⟩), 1, 16) := by kernel_rfl

set_option maxHeartbeats 400000 in
theorem toStringS_any (v : Value) (zs : List ByteArray) (w : World) (hv : SlR w v (zs.map Value.string)) (hn : zs.length ≤ 1048576) :
    Calls Tryd.prog 14 #[v] w (RetSl w 9 zs.length (zs.map Value.string) id) := by
  obtain ⟨i0, hi, hz0, hz1, hz2⟩ := info_parts info_StringS
  obtain ⟨a, n, c, rfl, hnl, hnc, hcm, hcell⟩ := SlR.opened ⟨#[]⟩ hv
  have hn' : n ≤ 1048576 := by omega
  rw [hnl]
  have HN := Lib.hid hnl
  have HC := Lib.hid hcell
  clear hnl hn hcell hcm hnc hv
  go_enter Tryd.func14, Tryd.ntmps14
  go_wp2_with (at_make; refine wpList_make_full _ rfl _ _ 28 rfl w.heap.size 9 i0 (.string ⟨#[]⟩) 1 Tryd.underlying28 hi hz0 hz1 .i64 .i64 _ _ n rfl rfl rfl rfl (by rw [hz2]; omega) (by unfold maxLen; omega) (Nat.le_refl _) ?_; intro w1 hown hgr)
  have hb1 : Below w.heap.size w w1 := (Below.refl _ _).grown hgr (Nat.le_refl _) (by simp)
  rw [Nat.mul_one, show (Value.cells (.string ⟨#[]⟩)) = #[(.string ⟨#[]⟩)] from rfl, toList_madeCells_one] at hown
  go_loopw [4] (fun i wr => ∃ k : Nat, k ≤ n ∧ i = .int .i64 k ∧ wr.ownsRow w.heap.size 9 1 (.slice (some ⟨w.heap.size, 0, none⟩) n n) n ((zs.take k).map Value.string ++ List.replicate (n - k) (.string ⟨#[]⟩)) ∧ Below w.heap.size w wr) (fun i _ => n - (intOf i).toNat)
  case atStart => exact ⟨0, Nat.zero_le _, rfl, by simpa using hown, hb1⟩
  case round =>
    clear hown hgr hb1
    obtain ⟨k, hk, rfl, hown, hb⟩ := hrel
    by_cases hlt : k < n
    · obtain ⟨b, off, rfl, hc, hbl⟩ := HC.out k hlt
      have hc1 := (hb.cell (p := ⟨b, off + k, none⟩) hbl).trans hc
      have hd := (hown.cellAt k (by omega))
      obtain ⟨u, hu⟩ : ∃ u, ((zs.take k).map Value.string ++ List.replicate (n - k) (.string ⟨#[]⟩))[k]? = some u := ⟨_, List.getElem?_eq_getElem (by simp; have := HN.out; omega)⟩
      rw [hu] at hd
      have hf := hown.frozenAt k
      have hst := hown.stored k (Value.string (zs.getD k ⟨#[]⟩))
      have HST := Lib.hid hst
      clear hst hu hc
      go_wp2
      go_roundw
      case rel =>
        refine ⟨k + 1, by omega, by go_num, ?_, ?_⟩
        · have h2 := HST.out.1
          rw [← HN.out, set_fill zs _ _ ⟨#[]⟩ k (by rw [HN.out]; exact hlt)] at h2
          rw [← HN.out]
          simpa using h2
        · exact hb.setCell (Nat.le_refl _) _
      case measure => simp [intOf]; omega
    · obtain rfl : n = k := by omega
      go_wp2
      go_ret
      refine RetSl.mk (f := id) ?_ hb
      rw [← HN.out] at hown ⊢
      simpa using hown
theorem tob_take_succ (xss : List ByteArray) (k : Nat) (h : k < xss.length) : tob (xss.take (k + 1)) = tob (xss.take k) + (wbx xss k).length := by
  unfold tob wbx
  rw [List.take_succ_eq_append_getElem h, List.map_append, List.sum_append]
  simp [List.getElem?_eq_getElem h]
theorem tob_take_le (xss : List ByteArray) (k : Nat) : tob (xss.take k) ≤ tob xss := by
  have h : tob (xss.take k) + tob (xss.drop k) = tob xss := by
    unfold tob
    rw [← List.sum_append, ← List.map_append, List.take_append_drop]
  omega
theorem wbx_size {ws : List ByteArray} (hx : ∀ x ∈ ws, x.size ≤ 9223372036854775807) (k : Nat) : (wbx ws k).length ≤ 9223372036854775807 := by
  unfold wbx
  by_cases h : k < ws.length
  · have := hx _ (List.getElem_mem h)
    rw [List.getElem?_eq_getElem h]
    show (ws[k]).data.toList.length ≤ _
    simpa using this
  · rw [List.getElem?_eq_none (by omega)]; exact Nat.zero_le _

set_option maxHeartbeats 1000000 in
theorem szStringS_any (v : Value) (xss : List ByteArray) (left : Int) (w : World) (hv : SlR w v (xss.map Value.string)) (hx : ∀ x ∈ xss, x.size ≤ 9223372036854775807) (h0 : 0 ≤ left) (h1 : left ≤ 1048576) :
    Calls Tryd.prog 12 #[v, .int .i64 left] w fun e w' => e = .returned (.int .i64 (if left < (xss.length : Int) + (tob xss : Int) then -1 else left - (xss.length : Int) - (tob xss : Int))) ∧ w' = w := by
  obtain ⟨res, hres⟩ : ∃ res, res = (if left < (xss.length : Int) + (tob xss : Int) then -1 else left - (xss.length : Int) - (tob xss : Int)) := ⟨_, rfl⟩
  rw [← hres]
  have hxw := wbx_size hx
  obtain ⟨a, n, c, rfl, hnl, hnc, hcm, hcell⟩ := SlR.opened ⟨#[]⟩ hv
  unfold maxLen at hcm
  have hn9 : n ≤ 9223372036854775807 := by omega
  have HBAD : Hid (left < (n : Int) + (tob xss : Int) → res = -1) := by
    show _ → _
    intro h; rw [hres, hnl, if_pos h]
  have HGOOD : Hid (¬ left < (n : Int) + (tob xss : Int) → res = left - (n : Int) - (tob xss : Int)) := by
    show _ → _
    intro h; rw [hres, hnl, if_neg h]
  have HS : Hid (∀ k, k < n → tob (xss.take (k + 1)) = tob (xss.take k) + (wbx xss k).length) := fun k hk => tob_take_succ xss k (by omega)
  have HL : Hid (∀ k, tob (xss.take k) ≤ tob xss) := tob_take_le xss
  have HA : Hid (tob (xss.take n) = tob xss) := by show _ = _; rw [List.take_of_length_le (by omega)]
  have HC := Lib.hid hcell
  have HX := Lib.hid hxw
  clear hres hnl hcell hcm hnc hv hx hxw
  by_cases hlt0 : left < (n : Int)
  · have hx : left - (n : Int) < 0 := by omega
    go_enter Tryd.func12, Tryd.ntmps12
    go_wp2
    go_ret
    exact ⟨by rw [HBAD.out (by omega)]; rfl, rfl⟩
  · have hx : ¬ left - (n : Int) < 0 := by omega
    go_enter Tryd.func12, Tryd.ntmps12
    go_wp2
    go_loop [1, 5] (fun l i => ∃ k : Nat, ∃ lk : Int, k ≤ n ∧ i = .int .i64 k ∧ l = .int .i64 lk ∧ lk = left - (n : Int) - (tob (xss.take k) : Int) ∧ 0 ≤ lk) (fun _ i => n - (intOf i).toNat)
    case atStart => exact ⟨0, left - (n : Int), Nat.zero_le _, rfl, rfl, by simp [tob], by omega⟩
    case round =>
      obtain ⟨k, lk, hk, rfl, rfl, hlk, hl0⟩ := hrel
      have HLK := Lib.hid hlk
      have hl1 : lk ≤ 1048576 := by omega
      clear hlk
      by_cases hlt : k < n
      · obtain ⟨b, off, rfl, hc, hbl⟩ := HC.out k hlt
        rw [List.getD_eq_getElem?_getD, wbx_eq] at hc
        have hsk := HS.out k hlt
        have HSK := Lib.hid hsk
        have hu := HX.out k
        clear hsk
        generalize wbx xss k = u at *
        by_cases hmk : lk < (u.length : Int)
        · have hneg : lk - (u.length : Int) < 0 := by omega
          go_wp2
          go_ret
          refine ⟨?_, rfl⟩
          have h2 := HL.out (k + 1)
          have h3 := HLK.out
          have h4 := HSK.out
          rw [HBAD.out (by omega)]; rfl
        · have hpos : ¬ lk - (u.length : Int) < 0 := by omega
          go_wp2
          go_round
          case rel => exact ⟨k + 1, lk - (u.length : Int), by omega, by go_num, by go_num, by have h3 := HLK.out; have h4 := HSK.out; omega, by omega⟩
          case measure => simp [intOf]; omega
      · obtain rfl : n = k := by omega
        go_wp2
        go_ret
        refine ⟨?_, rfl⟩
        have h3 := HLK.out
        rw [HA.out] at h3
        rw [HGOOD.out (by omega), h3]; rfl
theorem szStringS_le (v : Value) (xss : List ByteArray) (left : Int) (w : World) (hv : SlR w v (xss.map Value.string)) (hx : ∀ x ∈ xss, x.size ≤ 9223372036854775807) (h0 : 0 ≤ left) (h1 : left ≤ 1048576) (h : (xss.length : Int) + (tob xss : Int) ≤ left) :
    Calls Tryd.prog 12 #[v, .int .i64 left] w fun e w' => e = .returned (.int .i64 (left - (xss.length : Int) - (tob xss : Int))) ∧ w' = w := by
  have hh := szStringS_any v xss left w hv hx h0 h1
  rw [if_neg (by omega)] at hh
  exact hh
theorem szStringS_gt (v : Value) (xss : List ByteArray) (left : Int) (w : World) (hv : SlR w v (xss.map Value.string)) (hx : ∀ x ∈ xss, x.size ≤ 9223372036854775807) (h0 : 0 ≤ left) (h1 : left ≤ 1048576) (h : left < (xss.length : Int) + (tob xss : Int)) :
    Calls Tryd.prog 12 #[v, .int .i64 left] w fun e w' => e = .returned (.int .i64 (-1)) ∧ w' = w := by
  have hh := szStringS_any v xss left w hv hx h0 h1
  rw [if_pos h] at hh
  exact hh

end Go.Proofs.YtcgenmkgdhaejaaDoor
