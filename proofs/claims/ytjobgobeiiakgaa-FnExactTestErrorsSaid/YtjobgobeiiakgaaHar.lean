/- The harness of the laws: copies, sizes, comparisons, marks. -/
import Derived.Test.YtjobgobeiiakgaaBase
import Derived.Handy
import Derived.WideShapes
namespace Go.Proofs.Ytjobgobeiiakgaa
set_option linter.unusedSimpArgs false
set_option linter.unusedVariables false
open Go.RowKit
theorem bs_ne {x y : ByteArray} (h : (!(x.toList == y.toList)) = true) : x ≠ y := by
  rintro rfl
  simp at h
theorem bs_eq {x y : ByteArray} (h : (!(x.toList == y.toList)) = false) : x = y := by
  have h1 : x.toList = y.toList := by simpa using h
  rw [ByteArray.toList_eq, ByteArray.toList_eq] at h1
  exact Go.WideShapes.bytes_inj h1
theorem info_Int64S : (Try.prog.info? 2).map (fun i => (i.zero, i.size, i.bytes)) = some (some (.int .i64 0), 1, 8) := by kernel_rfl

theorem info_Float32S : (Try.prog.info? 33).map (fun i => (i.zero, i.size, i.bytes)) = some (some (.float .f32 0), 1, 4) := by kernel_rfl

set_option maxHeartbeats 400000 in
theorem toFloat32S_any (v : Value) (zs : List Nat) (w : World) (hv : SlR w v (zs.map (Value.float .f32))) (hn : zs.length ≤ 1048576) :
    Calls Try.prog 14 #[v] w (RetSl w 33 zs.length (zs.map (Value.float .f32)) id) := by
  obtain ⟨i0, hi, hz0, hz1, hz2⟩ := info_parts info_Float32S
  obtain ⟨a, n, c, rfl, hnl, hnc, hcm, hcell⟩ := SlR.opened 0 hv
  have hn' : n ≤ 1048576 := by omega
  rw [hnl]
  have HN := Lib.hid hnl
  have HC := Lib.hid hcell
  clear hnl hn hcell hcm hnc hv
  go_enter Try.func14, Try.ntmps14
  go_wp2_with (at_make; refine wpList_make_full _ rfl _ _ 28 rfl w.heap.size 33 i0 (.float .f32 0) 1 Try.underlying28 hi hz0 hz1 .i64 .i64 _ _ n rfl rfl rfl rfl (by rw [hz2]; omega) (by unfold maxLen; omega) (Nat.le_refl _) ?_; intro w1 hown hgr)
  have hb1 : Below w.heap.size w w1 := (Below.refl _ _).grown hgr (Nat.le_refl _) (by simp)
  rw [Nat.mul_one, show (Value.cells (.float .f32 0)) = #[(.float .f32 0)] from rfl, toList_madeCells_one] at hown
  go_loopw [4] (fun i wr => ∃ k : Nat, k ≤ n ∧ i = .int .i64 k ∧ wr.ownsRow w.heap.size 33 1 (.slice (some ⟨w.heap.size, 0, none⟩) n n) n ((zs.take k).map (Value.float .f32) ++ List.replicate (n - k) (.float .f32 0)) ∧ Below w.heap.size w wr) (fun i _ => n - (intOf i).toNat)
  case atStart => exact ⟨0, Nat.zero_le _, rfl, by simpa using hown, hb1⟩
  case round =>
    clear hown hgr hb1
    obtain ⟨k, hk, rfl, hown, hb⟩ := hrel
    by_cases hlt : k < n
    · obtain ⟨b, off, rfl, hc, hbl⟩ := HC.out k hlt
      have hc1 := (hb.cell (p := ⟨b, off + k, none⟩) hbl).trans hc
      have hd := (hown.cellAt k (by omega))
      obtain ⟨u, hu⟩ : ∃ u, ((zs.take k).map (Value.float .f32) ++ List.replicate (n - k) (.float .f32 0))[k]? = some u := ⟨_, List.getElem?_eq_getElem (by simp; have := HN.out; omega)⟩
      rw [hu] at hd
      have hf := hown.frozenAt k
      have hst := hown.stored k ((Value.float .f32) (zs.getD k 0))
      have HST := Lib.hid hst
      clear hst hu hc
      go_wp2
      go_roundw
      case rel =>
        refine ⟨k + 1, by omega, by go_num, ?_, ?_⟩
        · have h2 := HST.out.1
          rw [← HN.out, set_fill zs _ _ 0 k (by rw [HN.out]; exact hlt)] at h2
          rw [← HN.out]
          simpa using h2
        · exact hb.setCell (Nat.le_refl _) _
      case measure => simp [intOf]; omega
    · obtain rfl : n = k := by omega
      go_wp2
      go_ret
      refine RetSl.mk (f := id) ?_ hb
      rw [← HN.out] at hown ⊢
      simpa using hown

set_option maxHeartbeats 400000 in
theorem szFloat32S_any (a : Option Addr) (n c : Nat) (left : Int) (w : World) (h0 : 0 ≤ left) (h1 : left ≤ 1048576) (hn : n ≤ 9223372036854775807) :
    Calls Try.prog 59 #[.slice a n c, .int .i64 left] w fun e w' => e = .returned (.int .i64 (if left < n then -1 else left - n)) ∧ w' = w := by
  by_cases hlt : left < n
  · have hx : left - (n : Int) < 0 := by omega
    go_enter Try.func59, Try.ntmps59
    go_wp2
    go_ret
    exact ⟨rfl, rfl⟩
  · have hx : ¬ left - (n : Int) < 0 := by omega
    go_enter Try.func59, Try.ntmps59
    go_wp2
    go_ret
    exact ⟨rfl, rfl⟩

theorem div_one (x : Nat) (h : (FloatKind.f64.format.order x x == some Ordering.eq) = true) : ∃ r, floatBits .quo .f64 4607182418800017408 x = some r := by
  have h1 : Ieee.double.read 4607182418800017408 = .number false 4503599627370496 (-52) := by decide +kernel
  simp only [FloatKind.format, Ieee.Format.order] at h
  show ∃ r, Ieee.Format.div Ieee.double 4607182418800017408 x = some r
  unfold Ieee.Format.div
  rw [h1, ← Option.isSome_iff_exists, Option.isSome_map]
  cases hx : Ieee.double.read x with
  | nan s f => rw [hx] at h; simp [Ieee.Datum.order] at h
  | infinity s => rfl
  | number s m i =>
    by_cases hm : m = 0
    · subst hm; rfl
    · simp [Ieee.Datum.quotient, hm]

set_option maxHeartbeats 400000 in
theorem sameFloat_self (x : Nat) (w : World) : Calls Try.prog 19 #[.float .f64 x, .float .f64 x] w fun e w' => e = .returned (.bool true) ∧ Qu w w' := by
  by_cases h : (FloatKind.f64.format.order x x == some Ordering.eq) = true
  · have h' : (FloatKind.f64.format.order x x != some Ordering.eq) = false := by simpa using h
    obtain ⟨r, hr⟩ := div_one x h
    have hrun := run_float_arith (P := Try.prog) (w := w) .quo 37 .f64 _ _ _ hr
    clear hr
    by_cases h0 : (FloatKind.f64.format.order x 0 == some Ordering.eq) = true
    all_goals
      try rw [Bool.not_eq_true] at h0
      go_enter Try.func19, Try.ntmps19
      go_wp2
      go_ret
      exact ⟨rfl, Qu.refl _⟩
  · have h2 : (FloatKind.f64.format.order x x == some Ordering.eq) = false := by simpa using h
    have h' : (FloatKind.f64.format.order x x != some Ordering.eq) = true := by simpa using h
    go_enter Try.func19, Try.ntmps19
    go_wp2
    go_ret
    exact ⟨rfl, Qu.refl _⟩

theorem szFloat32S_le (a : Option Addr) (n c : Nat) (left : Int) (w : World) (h0 : 0 ≤ left) (h1 : left ≤ 1048576) (hn : n ≤ 9223372036854775807) (h : n ≤ left) :
    Calls Try.prog 59 #[.slice a n c, .int .i64 left] w fun e w' => e = .returned (.int .i64 (left - n)) ∧ w' = w := by
  have hh := szFloat32S_any a n c left w h0 h1 hn
  rw [if_neg (by omega)] at hh
  exact hh
theorem szFloat32S_gt (a : Option Addr) (n c : Nat) (left : Int) (w : World) (h0 : 0 ≤ left) (h1 : left ≤ 1048576) (hn : n ≤ 9223372036854775807) (h : left < n) :
    Calls Try.prog 59 #[.slice a n c, .int .i64 left] w fun e w' => e = .returned (.int .i64 (-1)) ∧ w' = w := by
  have hh := szFloat32S_any a n c left w h0 h1 hn
  rw [if_pos h] at hh
  exact hh

end Go.Proofs.Ytjobgobeiiakgaa
