/- The harness of the laws: copies, sizes, comparisons, marks. -/
import Derived.Test.YtcgenmkgdhaejaaDoorBase
import Derived.Handy
import Derived.WideShapes
namespace Go.Proofs.YtcgenmkgdhaejaaDoor
set_option linter.unusedSimpArgs false
set_option linter.unusedVariables false
open Go.RowKit
theorem bs_ne {x y : ByteArray} (h : (!(x.toList == y.toList)) = true) : x ≠ y := by
  rintro rfl
  simp at h
theorem bs_eq {x y : ByteArray} (h : (!(x.toList == y.toList)) = false) : x = y := by
  have h1 : x.toList = y.toList := by simpa using h
  rw [ByteArray.toList_eq, ByteArray.toList_eq] at h1
  exact Go.WideShapes.bytes_inj h1
theorem info_Int64S : (Tryd.prog.info? 2).map (fun i => (i.zero, i.size, i.bytes)) = some (some (.int .i64 0), 1, 8) := by kernel_rfl

set_option maxHeartbeats 400000 in
theorem eqInt64S_any (v u : Value) (xs ys : List Int) (w : World) (hv : SlR w v (xs.map (Value.int .i64))) (hu : SlR w u (ys.map (Value.int .i64))) :
    Calls Tryd.prog 9 #[v, u] w fun e w' => e = .returned (.bool (decide (xs = ys))) ∧ Qu w w' := by
  obtain ⟨a, n, c, rfl, hnl, hnc, hcm, hcell⟩ := SlR.opened 0 hv
  obtain ⟨a', n', c', rfl, hnl', hnc', hcm', hcell'⟩ := SlR.opened 0 hu
  unfold maxLen at hcm hcm'
  have hn9 : n ≤ 9223372036854775807 := by omega
  have hn9' : n' ≤ 9223372036854775807 := by omega
  by_cases hl : n = n'
  · subst hl
    have HN := Lib.hid hnl
    have HN' := Lib.hid hnl'
    have HC := Lib.hid hcell
    have HC' := Lib.hid hcell'
    have htest : ((n : Int) != (n : Int)) = false := by simp
    clear hnl hcell hcm hnc hv hnl' hcell' hcm' hnc' hu
    go_enter Tryd.func9, Tryd.ntmps9
    go_wp2
    go_loopw [5] (fun i wr => ∃ k : Nat, k ≤ n ∧ i = .int .i64 k ∧ xs.take k = ys.take k ∧ Qu w wr) (fun i _ => n - (intOf i).toNat)
    case atStart => exact ⟨0, Nat.zero_le _, rfl, rfl, Qu.refl _⟩
    case round =>
      obtain ⟨k, hk, rfl, hpre, m, rfl⟩ := hrel
      have HP := Lib.hid hpre
      clear hpre
      by_cases hlt : k < n
      · obtain ⟨b, off, rfl, hc, hbl⟩ := HC.out k hlt
        obtain ⟨b', off', rfl, hc', hbl'⟩ := HC'.out k hlt
        go_wp2
        go_quiet (fail)
        go_wp2
        · go_ret
          have hne : xs[k]?.getD 0 ≠ ys[k]?.getD 0 := by first | exact bne_iff_ne.1 (by assumption) | exact bs_ne (by assumption)
          exact ⟨ret_bool (by rw [eq_comm, decide_eq_false_iff_not]; rintro rfl; exact hne rfl), Qu.drewN ⟨_, rfl⟩ _⟩
        · have heq : xs[k]?.getD 0 = ys[k]?.getD 0 := by first | exact bne_eq_false_iff_eq.1 (by assumption) | exact bs_eq (by assumption)
          go_roundw
          case rel => exact ⟨k + 1, by omega, by go_num, take_succ_same HP.out (by rw [HN.out]; exact hlt) (by rw [HN'.out]; exact hlt) heq, _, rfl⟩
          case measure => simp [intOf]; omega
      · obtain rfl : n = k := by omega
        go_wp2
        go_ret
        exact ⟨ret_bool (by rw [eq_comm, decide_eq_true_iff]; exact eq_of_take HP.out HN.out HN'.out), _, rfl⟩
  · have HL : Hid (¬ xs = ys) := by
      show ¬ xs = ys
      rintro rfl
      exact hl (hnl.symm.trans hnl')
    have htest : ((n : Int) != (n' : Int)) = true := by rw [bne_iff_ne]; omega
    clear hnl hcell hcm hnc hv hnl' hcell' hcm' hnc' hu hl
    go_enter Tryd.func9, Tryd.ntmps9
    go_wp2
    go_ret
    exact ⟨ret_bool (by rw [eq_comm, decide_eq_false_iff_not]; exact HL.out), Qu.refl _⟩

set_option maxHeartbeats 400000 in
theorem eqStringS_any (v u : Value) (xs ys : List ByteArray) (w : World) (hv : SlR w v (xs.map Value.string)) (hu : SlR w u (ys.map Value.string)) :
    Calls Tryd.prog 16 #[v, u] w fun e w' => e = .returned (.bool (decide (xs = ys))) ∧ Qu w w' := by
  obtain ⟨a, n, c, rfl, hnl, hnc, hcm, hcell⟩ := SlR.opened ByteArray.empty hv
  obtain ⟨a', n', c', rfl, hnl', hnc', hcm', hcell'⟩ := SlR.opened ByteArray.empty hu
  unfold maxLen at hcm hcm'
  have hn9 : n ≤ 9223372036854775807 := by omega
  have hn9' : n' ≤ 9223372036854775807 := by omega
  by_cases hl : n = n'
  · subst hl
    have HN := Lib.hid hnl
    have HN' := Lib.hid hnl'
    have HC := Lib.hid hcell
    have HC' := Lib.hid hcell'
    have htest : ((n : Int) != (n : Int)) = false := by simp
    clear hnl hcell hcm hnc hv hnl' hcell' hcm' hnc' hu
    go_enter Tryd.func16, Tryd.ntmps16
    go_wp2
    go_loopw [5] (fun i wr => ∃ k : Nat, k ≤ n ∧ i = .int .i64 k ∧ xs.take k = ys.take k ∧ Qu w wr) (fun i _ => n - (intOf i).toNat)
    case atStart => exact ⟨0, Nat.zero_le _, rfl, rfl, Qu.refl _⟩
    case round =>
      obtain ⟨k, hk, rfl, hpre, m, rfl⟩ := hrel
      have HP := Lib.hid hpre
      clear hpre
      by_cases hlt : k < n
      · obtain ⟨b, off, rfl, hc, hbl⟩ := HC.out k hlt
        obtain ⟨b', off', rfl, hc', hbl'⟩ := HC'.out k hlt
        go_wp2
        go_quiet (fail)
        go_wp2
        · go_ret
          have hne : xs[k]?.getD ByteArray.empty ≠ ys[k]?.getD ByteArray.empty := by first | exact bne_iff_ne.1 (by assumption) | exact bs_ne (by assumption)
          exact ⟨ret_bool (by rw [eq_comm, decide_eq_false_iff_not]; rintro rfl; exact hne rfl), Qu.drewN ⟨_, rfl⟩ _⟩
        · have heq : xs[k]?.getD ByteArray.empty = ys[k]?.getD ByteArray.empty := by first | exact bne_eq_false_iff_eq.1 (by assumption) | exact bs_eq (by assumption)
          go_roundw
          case rel => exact ⟨k + 1, by omega, by go_num, take_succ_same HP.out (by rw [HN.out]; exact hlt) (by rw [HN'.out]; exact hlt) heq, _, rfl⟩
          case measure => simp [intOf]; omega
      · obtain rfl : n = k := by omega
        go_wp2
        go_ret
        exact ⟨ret_bool (by rw [eq_comm, decide_eq_true_iff]; exact eq_of_take HP.out HN.out HN'.out), _, rfl⟩
  · have HL : Hid (¬ xs = ys) := by
      show ¬ xs = ys
      rintro rfl
      exact hl (hnl.symm.trans hnl')
    have htest : ((n : Int) != (n' : Int)) = true := by rw [bne_iff_ne]; omega
    clear hnl hcell hcm hnc hv hnl' hcell' hcm' hnc' hu hl
    go_enter Tryd.func16, Tryd.ntmps16
    go_wp2
    go_ret
    exact ⟨ret_bool (by rw [eq_comm, decide_eq_false_iff_not]; exact HL.out), Qu.refl _⟩

set_option maxHeartbeats 400000 in
theorem markInt64S_any (a : Option Addr) (n c : Nat) (xs : List Value) (k : Int) (B : Nat) (w : World) (h0 : 0 ≤ k) (h1 : k ≤ 1048576) (hn : n ≤ 1048576) (hown : w.ownsRow B 2 1 (.slice a n c) n xs) :
    Calls Tryd.prog 10 #[.slice a n c, .int .i64 k] w fun e w' => e = .returned (.int .i64 (k + n)) ∧ w'.ownsRow B 2 1 (.slice a n c) n ((marks k n).map (fun q => Value.int .i64 q)) ∧ w.grownBy w' (Value.slice a n c).ownBlock := by
  have hx : xs.length = n := by simpa using hown.1
  have HX := Lib.hid hx
  clear hx
  go_enter Tryd.func10, Tryd.ntmps10
  go_wp2
  go_loopw [1, 5] (fun kk i wr => ∃ j : Nat, j ≤ n ∧ i = .int .i64 j ∧ kk = .int .i64 (k + j) ∧ wr.ownsRow B 2 1 (.slice a n c) n ((marks k j).map (fun q => Value.int .i64 q) ++ xs.drop j) ∧ w.grownBy wr (Value.slice a n c).ownBlock) (fun _ i _ => n - (intOf i).toNat)
  case atStart => exact ⟨0, Nat.zero_le _, rfl, by simp, by simpa [marks] using hown, World.grownBy.refl _ _⟩
  case round =>
    clear hown
    obtain ⟨j, hj, rfl, rfl, hown, hg⟩ := hrel
    by_cases hlt : j < n
    · obtain ⟨g, rfl⟩ : ∃ g, a = some ⟨g, 0, none⟩ := by
        rcases hown.2 with ⟨h, h'⟩ | ⟨g, cap, cur, h, _⟩
        · simp only [Value.slice.injEq] at h; omega
        · simp only [Value.slice.injEq] at h; exact ⟨g, h.1⟩
      have hd := (hown.cellAt j (by omega))
      obtain ⟨u, hu⟩ : ∃ u, ((marks k j).map (fun q => Value.int .i64 q) ++ xs.drop j)[j]? = some u := ⟨_, List.getElem?_eq_getElem (by simp [marks_length]; have := HX.out; omega)⟩
      rw [hu] at hd
      have hf := hown.frozenAt j
      have hst := hown.stored j ((fun q => Value.int .i64 q) (k + j))
      have HST := Lib.hid hst
      clear hst hu
      go_wp2
      go_roundw
      case rel =>
        refine ⟨j + 1, by omega, by go_num, by go_num, ?_, ?_⟩
        · have h2 := HST.out.1
          rw [set_mark k j xs (fun q => Value.int .i64 q) (by rw [HX.out]; exact hlt)] at h2
          exact h2
        · exact grownBy_trans hg HST.out.2
      case measure => simp [intOf]; omega
    · obtain rfl : n = j := by omega
      go_wp2
      go_ret
      refine ⟨rfl, ?_, hg⟩
      rw [List.drop_of_length_le (by rw [HX.out]; exact Nat.le_refl _), List.append_nil] at hown
      exact hown

set_option maxHeartbeats 400000 in
theorem heldInt64S_any (v : Value) (n : Nat) (k : Int) (w : World) (h0 : 0 ≤ k) (h1 : k ≤ 1048576) (hn : n ≤ 1048576) (hv : SlR w v ((marks k n).map (fun q => Value.int .i64 q))) :
    Calls Tryd.prog 11 #[v, .int .i64 k] w fun e w' => e = .returned (.int .i64 (k + n)) ∧ w' = w := by
  obtain ⟨a, n', c, rfl, hnl, hnc, hcm, hcell⟩ := SlR.opened 0 hv
  rw [marks_length] at hnl
  subst hnl
  have HC := Lib.hid hcell
  clear hcell hcm hnc hv
  go_enter Tryd.func11, Tryd.ntmps11
  go_wp2
  go_loop [1, 5] (fun kk i => ∃ j : Nat, j ≤ n ∧ i = .int .i64 j ∧ kk = .int .i64 (k + j)) (fun _ i => n - (intOf i).toNat)
  case atStart => exact ⟨0, Nat.zero_le _, rfl, by simp⟩
  case round =>
    obtain ⟨j, hj, rfl, rfl⟩ := hrel
    by_cases hlt : j < n
    · obtain ⟨b, off, rfl, hc, hbl⟩ := HC.out j hlt
      rw [List.getD_eq_getElem?_getD, marks_getD n k j hlt] at hc
      have ht : ((k + (j : Int)) != (k + (j : Int))) = false := by simp
      go_wp2
      go_round
      case rel => exact ⟨j + 1, by omega, by go_num, by go_num⟩
      case measure => simp [intOf]; omega
    · obtain rfl : n = j := by omega
      go_wp2
      go_ret
      exact ⟨rfl, rfl⟩

theorem eqInt64S_same (v u : Value) (xs : List Int) (w : World) (hv : SlR w v (xs.map (Value.int .i64))) (hu : SlR w u (xs.map (Value.int .i64))) :
    Calls Tryd.prog 9 #[v, u] w fun e w' => e = .returned (.bool true) ∧ Qu w w' := by
  have h := eqInt64S_any v u xs xs w hv hu
  rw [decide_eq_true rfl] at h
  exact h

theorem eqStringS_same (v u : Value) (xs : List ByteArray) (w : World) (hv : SlR w v (xs.map Value.string)) (hu : SlR w u (xs.map Value.string)) :
    Calls Tryd.prog 16 #[v, u] w fun e w' => e = .returned (.bool true) ∧ Qu w w' := by
  have h := eqStringS_any v u xs xs w hv hu
  rw [decide_eq_true rfl] at h
  exact h

end Go.Proofs.YtcgenmkgdhaejaaDoor
