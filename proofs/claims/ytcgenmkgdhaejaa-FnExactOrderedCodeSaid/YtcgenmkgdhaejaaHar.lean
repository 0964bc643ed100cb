/- The harness of the laws: copies, sizes, comparisons, marks. -/
import Derived.Test.YtcgenmkgdhaejaaBase
import Derived.Handy
import Derived.WideShapes
namespace Go.Proofs.Ytcgenmkgdhaejaa
set_option linter.unusedSimpArgs false
set_option linter.unusedVariables false
open Go.RowKit
theorem bs_ne {x y : ByteArray} (h : (!(x.toList == y.toList)) = true) : x ≠ y := by
  rintro rfl
  simp at h
theorem bs_eq {x y : ByteArray} (h : (!(x.toList == y.toList)) = false) : x = y := by
  have h1 : x.toList = y.toList := by simpa using h
  rw [ByteArray.toList_eq, ByteArray.toList_eq] at h1
  exact Go.WideShapes.bytes_inj h1

theorem info_Int64S : (Try.prog.info? 2).map (fun i => (i.zero, i.size, i.bytes)) = some (some (.int .i64 0), 1, 8) := by kernel_rfl

set_option maxHeartbeats 400000 in
theorem toInt64S_any (v : Value) (zs : List Int) (w : World) (hv : SlR w v (zs.map (Value.int .i64))) (hn : zs.length ≤ 1048576) :
    Calls Try.prog 10 #[v] w (RetSl w 2 zs.length (zs.map (Value.int .i64)) id) := by
  obtain ⟨i0, hi, hz0, hz1, hz2⟩ := info_parts info_Int64S
  obtain ⟨a, n, c, rfl, hnl, hnc, hcm, hcell⟩ := SlR.opened 0 hv
  have hn' : n ≤ 1048576 := by omega
  rw [hnl]
  have HN := Lib.hid hnl
  have HC := Lib.hid hcell
  clear hnl hn hcell hcm hnc hv
  go_enter Try.func10, Try.ntmps10
  go_wp2_with (at_make; refine wpList_make_full _ rfl _ _ 22 rfl w.heap.size 2 i0 (.int .i64 0) 1 Try.underlying22 hi hz0 hz1 .i64 .i64 _ _ n rfl rfl rfl rfl (by rw [hz2]; omega) (by unfold maxLen; omega) (Nat.le_refl _) ?_; intro w1 hown hgr)
  have hb1 : Below w.heap.size w w1 := (Below.refl _ _).grown hgr (Nat.le_refl _) (by simp)
  rw [Nat.mul_one, show (Value.cells (.int .i64 0)) = #[(.int .i64 0)] from rfl, toList_madeCells_one] at hown
  go_loopw [4] (fun i wr => ∃ k : Nat, k ≤ n ∧ i = .int .i64 k ∧ wr.ownsRow w.heap.size 2 1 (.slice (some ⟨w.heap.size, 0, none⟩) n n) n ((zs.take k).map (Value.int .i64) ++ List.replicate (n - k) (.int .i64 0)) ∧ Below w.heap.size w wr) (fun i _ => n - (intOf i).toNat)
  case atStart => exact ⟨0, Nat.zero_le _, rfl, by simpa using hown, hb1⟩
  case round =>
    clear hown hgr hb1
    obtain ⟨k, hk, rfl, hown, hb⟩ := hrel
    by_cases hlt : k < n
    · obtain ⟨b, off, rfl, hc, hbl⟩ := HC.out k hlt
      have hc1 := (hb.cell (p := ⟨b, off + k, none⟩) hbl).trans hc
      have hd := (hown.cellAt k (by omega))
      obtain ⟨u, hu⟩ : ∃ u, ((zs.take k).map (Value.int .i64) ++ List.replicate (n - k) (.int .i64 0))[k]? = some u := ⟨_, List.getElem?_eq_getElem (by simp; have := HN.out; omega)⟩
      rw [hu] at hd
      have hf := hown.frozenAt k
      have hst := hown.stored k ((Value.int .i64) (zs.getD k 0))
      have HST := Lib.hid hst
      clear hst hu hc
      go_wp2
      go_roundw
      case rel =>
        refine ⟨k + 1, by omega, by go_num, ?_, ?_⟩
        · have h2 := HST.out.1
          rw [← HN.out, set_fill zs _ _ 0 k (by rw [HN.out]; exact hlt)] at h2
          rw [← HN.out]
          simpa using h2
        · exact hb.setCell (Nat.le_refl _) _
      case measure => simp [intOf]; omega
    · obtain rfl : n = k := by omega
      go_wp2
      go_ret
      refine RetSl.mk (f := id) ?_ hb
      rw [← HN.out] at hown ⊢
      simpa using hown

theorem info_Float32S : (Try.prog.info? 38).map (fun i => (i.zero, i.size, i.bytes)) = some (some (.float .f32 0), 1, 4) := by kernel_rfl

set_option maxHeartbeats 400000 in
theorem toFloat32S_any (v : Value) (zs : List Nat) (w : World) (hv : SlR w v (zs.map (Value.float .f32))) (hn : zs.length ≤ 1048576) :
    Calls Try.prog 18 #[v] w (RetSl w 38 zs.length (zs.map (Value.float .f32)) id) := by
  obtain ⟨i0, hi, hz0, hz1, hz2⟩ := info_parts info_Float32S
  obtain ⟨a, n, c, rfl, hnl, hnc, hcm, hcell⟩ := SlR.opened 0 hv
  have hn' : n ≤ 1048576 := by omega
  rw [hnl]
  have HN := Lib.hid hnl
  have HC := Lib.hid hcell
  clear hnl hn hcell hcm hnc hv
  go_enter Try.func18, Try.ntmps18
  go_wp2_with (at_make; refine wpList_make_full _ rfl _ _ 33 rfl w.heap.size 38 i0 (.float .f32 0) 1 Try.underlying33 hi hz0 hz1 .i64 .i64 _ _ n rfl rfl rfl rfl (by rw [hz2]; omega) (by unfold maxLen; omega) (Nat.le_refl _) ?_; intro w1 hown hgr)
  have hb1 : Below w.heap.size w w1 := (Below.refl _ _).grown hgr (Nat.le_refl _) (by simp)
  rw [Nat.mul_one, show (Value.cells (.float .f32 0)) = #[(.float .f32 0)] from rfl, toList_madeCells_one] at hown
  go_loopw [4] (fun i wr => ∃ k : Nat, k ≤ n ∧ i = .int .i64 k ∧ wr.ownsRow w.heap.size 38 1 (.slice (some ⟨w.heap.size, 0, none⟩) n n) n ((zs.take k).map (Value.float .f32) ++ List.replicate (n - k) (.float .f32 0)) ∧ Below w.heap.size w wr) (fun i _ => n - (intOf i).toNat)
  case atStart => exact ⟨0, Nat.zero_le _, rfl, by simpa using hown, hb1⟩
  case round =>
    clear hown hgr hb1
    obtain ⟨k, hk, rfl, hown, hb⟩ := hrel
    by_cases hlt : k < n
    · obtain ⟨b, off, rfl, hc, hbl⟩ := HC.out k hlt
      have hc1 := (hb.cell (p := ⟨b, off + k, none⟩) hbl).trans hc
      have hd := (hown.cellAt k (by omega))
      obtain ⟨u, hu⟩ : ∃ u, ((zs.take k).map (Value.float .f32) ++ List.replicate (n - k) (.float .f32 0))[k]? = some u := ⟨_, List.getElem?_eq_getElem (by simp; have := HN.out; omega)⟩
      rw [hu] at hd
      have hf := hown.frozenAt k
      have hst := hown.stored k ((Value.float .f32) (zs.getD k 0))
      have HST := Lib.hid hst
      clear hst hu hc
      go_wp2
      go_roundw
      case rel =>
        refine ⟨k + 1, by omega, by go_num, ?_, ?_⟩
        · have h2 := HST.out.1
          rw [← HN.out, set_fill zs _ _ 0 k (by rw [HN.out]; exact hlt)] at h2
          rw [← HN.out]
          simpa using h2
        · exact hb.setCell (Nat.le_refl _) _
      case measure => simp [intOf]; omega
    · obtain rfl : n = k := by omega
      go_wp2
      go_ret
      refine RetSl.mk (f := id) ?_ hb
      rw [← HN.out] at hown ⊢
      simpa using hown

set_option maxHeartbeats 400000 in
theorem eqInt64S_any (v u : Value) (xs ys : List Int) (w : World) (hv : SlR w v (xs.map (Value.int .i64))) (hu : SlR w u (ys.map (Value.int .i64))) :
    Calls Try.prog 13 #[v, u] w fun e w' => e = .returned (.bool (decide (xs = ys))) ∧ Qu w w' := by
  obtain ⟨a, n, c, rfl, hnl, hnc, hcm, hcell⟩ := SlR.opened 0 hv
  obtain ⟨a', n', c', rfl, hnl', hnc', hcm', hcell'⟩ := SlR.opened 0 hu
  unfold maxLen at hcm hcm'
  have hn9 : n ≤ 9223372036854775807 := by omega
  have hn9' : n' ≤ 9223372036854775807 := by omega
  by_cases hl : n = n'
  · subst hl
    have HN := Lib.hid hnl
    have HN' := Lib.hid hnl'
    have HC := Lib.hid hcell
    have HC' := Lib.hid hcell'
    have htest : ((n : Int) != (n : Int)) = false := by simp
    clear hnl hcell hcm hnc hv hnl' hcell' hcm' hnc' hu
    go_enter Try.func13, Try.ntmps13
    go_wp2
    go_loopw [5] (fun i wr => ∃ k : Nat, k ≤ n ∧ i = .int .i64 k ∧ xs.take k = ys.take k ∧ Qu w wr) (fun i _ => n - (intOf i).toNat)
    case atStart => exact ⟨0, Nat.zero_le _, rfl, rfl, Qu.refl _⟩
    case round =>
      obtain ⟨k, hk, rfl, hpre, m, rfl⟩ := hrel
      have HP := Lib.hid hpre
      clear hpre
      by_cases hlt : k < n
      · obtain ⟨b, off, rfl, hc, hbl⟩ := HC.out k hlt
        obtain ⟨b', off', rfl, hc', hbl'⟩ := HC'.out k hlt
        go_wp2
        go_quiet (fail)
        go_wp2
        · go_ret
          have hne : xs[k]?.getD 0 ≠ ys[k]?.getD 0 := by first | exact bne_iff_ne.1 (by assumption) | exact bs_ne (by assumption)
          exact ⟨ret_bool (by rw [eq_comm, decide_eq_false_iff_not]; rintro rfl; exact hne rfl), Qu.drewN ⟨_, rfl⟩ _⟩
        · have heq : xs[k]?.getD 0 = ys[k]?.getD 0 := by first | exact bne_eq_false_iff_eq.1 (by assumption) | exact bs_eq (by assumption)
          go_roundw
          case rel => exact ⟨k + 1, by omega, by go_num, take_succ_same HP.out (by rw [HN.out]; exact hlt) (by rw [HN'.out]; exact hlt) heq, _, rfl⟩
          case measure => simp [intOf]; omega
      · obtain rfl : n = k := by omega
        go_wp2
        go_ret
        exact ⟨ret_bool (by rw [eq_comm, decide_eq_true_iff]; exact eq_of_take HP.out HN.out HN'.out), _, rfl⟩
  · have HL : Hid (¬ xs = ys) := by
      show ¬ xs = ys
      rintro rfl
      exact hl (hnl.symm.trans hnl')
    have htest : ((n : Int) != (n' : Int)) = true := by rw [bne_iff_ne]; omega
    clear hnl hcell hcm hnc hv hnl' hcell' hcm' hnc' hu hl
    go_enter Try.func13, Try.ntmps13
    go_wp2
    go_ret
    exact ⟨ret_bool (by rw [eq_comm, decide_eq_false_iff_not]; exact HL.out), Qu.refl _⟩

set_option maxHeartbeats 400000 in
theorem szFloat32S_any (a : Option Addr) (n c : Nat) (left : Int) (w : World) (h0 : 0 ≤ left) (h1 : left ≤ 1048576) (hn : n ≤ 9223372036854775807) :
    Calls Try.prog 55 #[.slice a n c, .int .i64 left] w fun e w' => e = .returned (.int .i64 (if left < n then -1 else left - n)) ∧ w' = w := by
  by_cases hlt : left < n
  · have hx : left - (n : Int) < 0 := by omega
    go_enter Try.func55, Try.ntmps55
    go_wp2
    go_ret
    exact ⟨rfl, rfl⟩
  · have hx : ¬ left - (n : Int) < 0 := by omega
    go_enter Try.func55, Try.ntmps55
    go_wp2
    go_ret
    exact ⟨rfl, rfl⟩

set_option maxHeartbeats 400000 in
theorem eqCode_any (v u : Value) (xs ys : List Int) (w : World) (hv : SlR w v (xs.map (Value.int .i64))) (hu : SlR w u (ys.map (Value.int .i64))) :
    Calls Try.prog 12 #[.agg #[v], .agg #[u]] w fun e w' => e = .returned (.bool (decide (xs = ys))) ∧ Below w.heap.size w w' := by
  generalize hd : decide (xs = ys) = t
  have HD := Lib.hid hd
  clear hd
  cases t
  all_goals
    go_enter Try.func12, Try.ntmps12
    go_wp2_with (go_at_call 13; refine (eqInt64S_any _ _ xs ys _ (hv.below (by go_grown)) (hu.below (by go_grown))).mono ?_; rw [HD.out]; rintro e w' ⟨rfl, m, rfl⟩)
    go_ret
    exact ⟨rfl, below_drewN (by go_grown) m⟩

set_option maxHeartbeats 400000 in
theorem markInt64S_any (a : Option Addr) (n c : Nat) (xs : List Value) (k : Int) (B : Nat) (w : World) (h0 : 0 ≤ k) (h1 : k ≤ 1048576) (hn : n ≤ 1048576) (hown : w.ownsRow B 2 1 (.slice a n c) n xs) :
    Calls Try.prog 14 #[.slice a n c, .int .i64 k] w fun e w' => e = .returned (.int .i64 (k + n)) ∧ w'.ownsRow B 2 1 (.slice a n c) n ((marks k n).map (fun q => Value.int .i64 q)) ∧ w.grownBy w' (Value.slice a n c).ownBlock := by
  have hx : xs.length = n := by simpa using hown.1
  have HX := Lib.hid hx
  clear hx
  go_enter Try.func14, Try.ntmps14
  go_wp2
  go_loopw [1, 5] (fun kk i wr => ∃ j : Nat, j ≤ n ∧ i = .int .i64 j ∧ kk = .int .i64 (k + j) ∧ wr.ownsRow B 2 1 (.slice a n c) n ((marks k j).map (fun q => Value.int .i64 q) ++ xs.drop j) ∧ w.grownBy wr (Value.slice a n c).ownBlock) (fun _ i _ => n - (intOf i).toNat)
  case atStart => exact ⟨0, Nat.zero_le _, rfl, by simp, by simpa [marks] using hown, World.grownBy.refl _ _⟩
  case round =>
    clear hown
    obtain ⟨j, hj, rfl, rfl, hown, hg⟩ := hrel
    by_cases hlt : j < n
    · obtain ⟨g, rfl⟩ : ∃ g, a = some ⟨g, 0, none⟩ := by
        rcases hown.2 with ⟨h, h'⟩ | ⟨g, cap, cur, h, _⟩
        · simp only [Value.slice.injEq] at h; omega
        · simp only [Value.slice.injEq] at h; exact ⟨g, h.1⟩
      have hd := (hown.cellAt j (by omega))
      obtain ⟨u, hu⟩ : ∃ u, ((marks k j).map (fun q => Value.int .i64 q) ++ xs.drop j)[j]? = some u := ⟨_, List.getElem?_eq_getElem (by simp [marks_length]; have := HX.out; omega)⟩
      rw [hu] at hd
      have hf := hown.frozenAt j
      have hst := hown.stored j ((fun q => Value.int .i64 q) (k + j))
      have HST := Lib.hid hst
      clear hst hu
      go_wp2
      go_roundw
      case rel =>
        refine ⟨j + 1, by omega, by go_num, by go_num, ?_, ?_⟩
        · have h2 := HST.out.1
          rw [set_mark k j xs (fun q => Value.int .i64 q) (by rw [HX.out]; exact hlt)] at h2
          exact h2
        · exact grownBy_trans hg HST.out.2
      case measure => simp [intOf]; omega
    · obtain rfl : n = j := by omega
      go_wp2
      go_ret
      refine ⟨rfl, ?_, hg⟩
      rw [List.drop_of_length_le (by rw [HX.out]; exact Nat.le_refl _), List.append_nil] at hown
      exact hown

set_option maxHeartbeats 400000 in
theorem heldInt64S_any (v : Value) (n : Nat) (k : Int) (w : World) (h0 : 0 ≤ k) (h1 : k ≤ 1048576) (hn : n ≤ 1048576) (hv : SlR w v ((marks k n).map (fun q => Value.int .i64 q))) :
    Calls Try.prog 39 #[v, .int .i64 k] w fun e w' => e = .returned (.int .i64 (k + n)) ∧ w' = w := by
  obtain ⟨a, n', c, rfl, hnl, hnc, hcm, hcell⟩ := SlR.opened 0 hv
  rw [marks_length] at hnl
  subst hnl
  have HC := Lib.hid hcell
  clear hcell hcm hnc hv
  go_enter Try.func39, Try.ntmps39
  go_wp2
  go_loop [1, 5] (fun kk i => ∃ j : Nat, j ≤ n ∧ i = .int .i64 j ∧ kk = .int .i64 (k + j)) (fun _ i => n - (intOf i).toNat)
  case atStart => exact ⟨0, Nat.zero_le _, rfl, by simp⟩
  case round =>
    obtain ⟨j, hj, rfl, rfl⟩ := hrel
    by_cases hlt : j < n
    · obtain ⟨b, off, rfl, hc, hbl⟩ := HC.out j hlt
      rw [List.getD_eq_getElem?_getD, marks_getD n k j hlt] at hc
      have ht : ((k + (j : Int)) != (k + (j : Int))) = false := by simp
      go_wp2
      go_round
      case rel => exact ⟨j + 1, by omega, by go_num, by go_num⟩
      case measure => simp [intOf]; omega
    · obtain rfl : n = j := by omega
      go_wp2
      go_ret
      exact ⟨rfl, rfl⟩

theorem div_one (x : Nat) (h : (FloatKind.f64.format.order x x == some Ordering.eq) = true) : ∃ r, floatBits .quo .f64 4607182418800017408 x = some r := by
  have h1 : Ieee.double.read 4607182418800017408 = .number false 4503599627370496 (-52) := by decide +kernel
  simp only [FloatKind.format, Ieee.Format.order] at h
  show ∃ r, Ieee.Format.div Ieee.double 4607182418800017408 x = some r
  unfold Ieee.Format.div
  rw [h1, ← Option.isSome_iff_exists, Option.isSome_map]
  cases hx : Ieee.double.read x with
  | nan s f => rw [hx] at h; simp [Ieee.Datum.order] at h
  | infinity s => rfl
  | number s m i =>
    by_cases hm : m = 0
    · subst hm; rfl
    · simp [Ieee.Datum.quotient, hm]

set_option maxHeartbeats 400000 in
theorem sameFloat_self (x : Nat) (w : World) : Calls Try.prog 23 #[.float .f64 x, .float .f64 x] w fun e w' => e = .returned (.bool true) ∧ Qu w w' := by
  by_cases h : (FloatKind.f64.format.order x x == some Ordering.eq) = true
  · have h' : (FloatKind.f64.format.order x x != some Ordering.eq) = false := by simpa using h
    obtain ⟨r, hr⟩ := div_one x h
    have hrun := run_float_arith (P := Try.prog) (w := w) .quo 42 .f64 _ _ _ hr
    clear hr
    by_cases h0 : (FloatKind.f64.format.order x 0 == some Ordering.eq) = true
    all_goals
      try rw [Bool.not_eq_true] at h0
      go_enter Try.func23, Try.ntmps23
      go_wp2
      go_ret
      exact ⟨rfl, Qu.refl _⟩
  · have h2 : (FloatKind.f64.format.order x x == some Ordering.eq) = false := by simpa using h
    have h' : (FloatKind.f64.format.order x x != some Ordering.eq) = true := by simpa using h
    go_enter Try.func23, Try.ntmps23
    go_wp2
    go_ret
    exact ⟨rfl, Qu.refl _⟩

theorem eqInt64S_same (v u : Value) (xs : List Int) (w : World) (hv : SlR w v (xs.map (Value.int .i64))) (hu : SlR w u (xs.map (Value.int .i64))) :
    Calls Try.prog 13 #[v, u] w fun e w' => e = .returned (.bool true) ∧ Qu w w' := by
  have h := eqInt64S_any v u xs xs w hv hu
  rw [decide_eq_true rfl] at h
  exact h

theorem eqCode_same (v u : Value) (xs : List Int) (w : World) (hv : SlR w v (xs.map (Value.int .i64))) (hu : SlR w u (xs.map (Value.int .i64))) :
    Calls Try.prog 12 #[.agg #[v], .agg #[u]] w fun e w' => e = .returned (.bool true) ∧ Below w.heap.size w w' := by
  have h := eqCode_any v u xs xs w hv hu
  rw [decide_eq_true rfl] at h
  exact h

theorem szFloat32S_le (a : Option Addr) (n c : Nat) (left : Int) (w : World) (h0 : 0 ≤ left) (h1 : left ≤ 1048576) (hn : n ≤ 9223372036854775807) (h : n ≤ left) :
    Calls Try.prog 55 #[.slice a n c, .int .i64 left] w fun e w' => e = .returned (.int .i64 (left - n)) ∧ w' = w := by
  have hh := szFloat32S_any a n c left w h0 h1 hn
  rw [if_neg (by omega)] at hh
  exact hh
theorem szFloat32S_gt (a : Option Addr) (n c : Nat) (left : Int) (w : World) (h0 : 0 ≤ left) (h1 : left ≤ 1048576) (hn : n ≤ 9223372036854775807) (h : left < n) :
    Calls Try.prog 55 #[.slice a n c, .int .i64 left] w fun e w' => e = .returned (.int .i64 (-1)) ∧ w' = w := by
  have hh := szFloat32S_any a n c left w h0 h1 hn
  rw [if_pos h] at hh
  exact hh

end Go.Proofs.Ytcgenmkgdhaejaa
