/- Even rows (EvenRow): slices.Repeat of one number. -/
import Derived.Test.YtmocfnpbofeiiaaMEnO
import Derived.Laws.CopyOwn
import Derived.Deep.RegionHeld3
import Derived.IntWalk
import Derived.Test.YtmocfnpbofeiiaaMEnR
namespace Go.Proofs.Ytmocfnpbofeiiaa
set_option linter.unusedSimpArgs false
set_option linter.unusedVariables false
open Go.RowKit
open Ieee
theorem stepCopyPosF {P : Program} {ops : Array Oper} {o : Oper} {a : Act} {w : World} {K : Act → World → Prop} {Q : Exit → Act → World → Prop} {E : Prop} (hgd : o.guard = none) (d s : Operand) (dT sT : TypeId)
    (ho : o.op = .call { callee := .builtin .copy, args := #[d, s], argTypes := #[dT, sT] }) (elem : TypeId) (hu : P.underlying dT = some (.slice elem)) (hsz : (P.info? elem).map (·.size) = some 1)
    (dp sp : Option Addr) (dLen dCap sLen sCap : Nat) (hd : a.eval d = .slice dp dLen dCap) (hs : a.eval s = .slice sp sLen sCap)
    (g off : Nat) (cur : List Value) (t : TypeId) (hg : w.heap[g]? = some (.cells cur.toArray t (0, 0))) (cs : List Value) (hn : cs.length = Nat.min sLen dLen)
    (hdp : dp = some ⟨g, off, none⟩) (ad : Addr) (hsp : sp = some ad) (hsrc : ∀ j v, cs[j]? = some v → w.cell? (ad.add j) = some v)
    (hfit : off + cs.length ≤ cur.length) (h1 : ∀ v ∈ cs, v.oneCell' = true)
    (h : K (a.put o.dst (goInt cs.length)) (w.setRow g (splice cur off cs).toArray)) :
    if Region.wanted o (yielded ops a.tmps) = true then Oper.wp P o a w K Q else E := by
  have hw : Region.wanted o (yielded ops a.tmps) = true := by simp [Region.wanted, hgd]
  rw [if_pos hw]
  subst hdp hsp
  have hrun := run_copy_row (P := P) w dT sT o.type elem g off dLen dCap ad sLen sCap cur.toArray t cs hu hsz hg hn hsrc (by simpa using hfit) h1
  unfold Oper.wp
  simp [execOp, ho, resolve, invoke, builtin, hd, hs, hrun, Result.andThen]
  exact h

/-- k numbers, and then 0. -/
def zf (x m k : Nat) : List Value := List.replicate k (.float .f32 x) ++ List.replicate (m - k) (.float .f32 0)
theorem zf_length (x m k : Nat) (h : k ≤ m) : (zf x m k).length = m := by simp [zf]; omega
theorem zf_full (x m : Nat) : zf x m m = List.replicate m (.float .f32 x) := by simp [zf]
theorem zf_get (x m k j : Nat) (h : j < k) : (zf x m k)[j]? = some (.float .f32 x) := by
  unfold zf
  rw [List.getElem?_append_left (by simpa using h), List.getElem?_replicate, if_pos h]
theorem zf_splice (x m k t : Nat) (h : k + t ≤ m) : splice (zf x m k) k (List.replicate t (.float .f32 x)) = zf x m (k + t) := by
  have hl : (List.replicate k (Value.float .f32 x)).length = k := List.length_replicate
  unfold splice zf
  rw [List.take_left' hl, List.length_replicate, List.drop_append, hl, List.drop_of_length_le (by rw [hl]; omega), List.nil_append, List.drop_replicate, ← List.append_assoc, List.replicate_append_replicate]
  congr 2
  omega
theorem repf_one (m x : Nat) : ∀ v ∈ List.replicate m (Value.float .f32 x), v.oneCell' = true := by
  intro v hv
  rw [List.mem_replicate] at hv
  rw [hv.2]; rfl

set_option maxHeartbeats 2000000 in
theorem mul64_n (m : Nat) (h1 : 1 ≤ m) (h8 : m ≤ 8) (w : World) : Calls Try.prog 142 #[.int .u64 1, .int .u64 m] w fun e w' => e = .returned (.tuple #[.int .u64 0, .int .u64 m]) ∧ w = w' := by
  have hm : m = 1 ∨ m = 2 ∨ m = 3 ∨ m = 4 ∨ m = 5 ∨ m = 6 ∨ m = 7 ∨ m = 8 := by omega
  rcases hm with rfl | rfl | rfl | rfl | rfl | rfl | rfl | rfl
  all_goals
    go_enter Try.func142, Try.ntmps142
    go_wp2
    go_ret2
    exact ⟨by kernel_rfl, rfl⟩

set_option maxHeartbeats 2000000 in
theorem mul_n (m : Nat) (h1 : 1 ≤ m) (h8 : m ≤ 8) (w : World) : Calls Try.prog 123 #[.int .u64 1, .int .u64 m] w fun e w' => e = .returned (.tuple #[.int .u64 0, .int .u64 m]) ∧ w = w' := by
  have HM := Lib.hid (fun W => mul64_n m h1 h8 W)
  clear h1 h8
  go_enter Try.func123, Try.ntmps123
  go_wp2_with (go_at_call 142; refine (HM.out _).mono ?_; rintro e w' ⟨rfl, rfl⟩)
  go_ret2
  exact ⟨rfl, rfl⟩

theorem info_f32E : (Try.prog.info? 32).map (fun i => (i.zero, i.size, i.bytes)) = some (some (.float .f32 0), 1, 4) := by kernel_rfl

set_option maxRecDepth 100000 in
set_option maxHeartbeats 1000000 in
theorem repeatF_any (m x : Nat) (v : Value) (w : World) (h1 : 1 ≤ m) (hm : m ≤ 8) (hv : SlR w v [.float .f32 x]) :
    Calls Try.prog 99 #[v, .int .i64 m] w (RetSl w 32 m (List.replicate m (.float .f32 x)) id) := by
  obtain ⟨i0, hi, hz0, hz1, hz2⟩ := info_parts info_f32E
  obtain ⟨a, n, c, rfl, hnl, hnc, hcm, hcell⟩ := SlR.opened (f := Value.float .f32) (l := [x]) 0 hv
  have hn1 : n = 1 := by simpa using hnl.symm
  subst hn1
  obtain ⟨b, off, rfl, hc, hbl⟩ := hcell 0 (by omega)
  have hc : w.cell? ⟨b, off, none⟩ = some (.float .f32 x) := hc
  have hsz : (Try.prog.info? 32).map (·.size) = some 1 := by kernel_rfl
  have HS := Lib.hid hsz
  have HML : Hid (∀ w, Calls Try.prog 123 #[.int .u64 1, .int .u64 m] w fun e w' => e = .returned (.tuple #[.int .u64 0, .int .u64 m]) ∧ w = w') := by
    exact fun w => mul_n m h1 hm w
  clear hcell hnl hsz
  unfold maxLen at hcm
  go_enter Try.func99, Try.ntmps99
  go_wp2_with (first | (go_at_call 123; refine (HML.out _).mono ?_; rintro e w' ⟨rfl, rfl⟩) | (at_make; refine wpList_make_full _ rfl _ _ 25 rfl w.heap.size 32 i0 (.float .f32 0) 1 Try.underlying25 hi hz0 hz1 .i64 .i64 _ _ m rfl rfl rfl rfl (by rw [hz2]; omega) (by unfold maxLen; omega) (Nat.le_refl _) ?_; intro w1 hown hgr))
  have hb1 : Below w.heap.size w w1 := (Below.refl _ _).grown hgr (Nat.le_refl _) (by simp)
  rw [Nat.mul_one, show (Value.cells (.float .f32 0)) = #[.float .f32 0] from rfl, toList_madeCells_one] at hown
  obtain ⟨hlen, hcase⟩ := hown
  rcases hcase with ⟨h, _⟩ | ⟨g', cap, cur, hv', hBg, hg, hnc', hcm', hcs, htake⟩
  · simp at h
  simp only [Value.slice.injEq, Option.some.injEq, Addr.mk.injEq, and_true, true_and] at hv'
  obtain ⟨rfl, rfl⟩ := hv'
  have hcur : cur = (zf x m 0).toArray := by
    rw [Nat.mul_one] at hcs htake
    rw [List.take_of_length_le (by simp; omega)] at htake
    rw [← Array.toArray_toList (xs := cur), htake]
    simp [zf]
  subst hcur
  have hcp := run_copy_row (P := Try.prog) w1 25 25 3 32 w.heap.size 0 m m ⟨b, off, none⟩ 1 c (zf x m 0).toArray 32 [.float .f32 x] Try.underlying25 HS.out hg (by show 1 = min 1 m; omega) (fun j v hj => by
    have hj0 : j = 0 := by
      have := (List.getElem?_eq_some_iff.1 hj).1
      simpa using this
    subst hj0
    rw [Addr.add_lit, Nat.add_zero]
    rw [show w1.cell? ⟨b, off, none⟩ = w.cell? ⟨b, off, none⟩ from hb1.cell (p := ⟨b, off, none⟩) hbl, hc]
    simpa using hj) (by simp [zf]; omega) (repf_one 1 x)
  rw [show (((zf x m 0).toArray.toList.take 0 ++ [Value.float .f32 x] ++ (zf x m 0).toArray.toList.drop (0 + [Value.float .f32 x].length)).toArray) = (zf x m 1).toArray by
    have h := zf_splice x m 0 1 (by omega)
    simp only [splice, List.replicate_one, Nat.zero_add] at h
    simp only [List.append_assoc, Nat.zero_add]
    exact congrArg List.toArray h] at hcp
  have hg2 := setRow_heap w1 w.heap.size _ (zf x m 1).toArray 32 (0, 0) hg
  have hb2 := below_setRow hb1 (Nat.le_refl _) (zf x m 1).toArray
  generalize w1.setRow w.heap.size (zf x m 1).toArray = w2 at *
  rw [hcp]
  clear hg hcp hb1 hgr
  go_wp2
  go_loopw [8] (fun i wr => ∃ k : Nat, 1 ≤ k ∧ k ≤ m ∧ i = .int .i64 k ∧ wr.heap[w.heap.size]? = some (.cells (zf x m k).toArray 32 (0, 0)) ∧ Below w.heap.size w wr) (fun i _ => m - (intOf i).toNat)
  case atStart => exact ⟨1, Nat.le_refl _, h1, rfl, hg2, hb2⟩
  case round =>
    clear hg2 hb2
    obtain ⟨k, hk1, hk, rfl, hg, hb⟩ := hrel
    by_cases hlt : k < m
    · obtain ⟨t, ht⟩ : ∃ t, t = Nat.min k (m - k) := ⟨_, rfl⟩
      have ht1 : 1 ≤ t ∧ k + t ≤ m ∧ t ≤ k := by
        have : Nat.min k (m - k) = min k (m - k) := rfl
        omega
      have HGd : Hid (wr.drew.heap[w.heap.size]? = some (.cells (zf x m k).toArray 32 (0, 0))) := hg
      have HN : Hid ((List.replicate t (Value.float .f32 x)).length = Nat.min k (m - k)) := by show _ = _; rw [List.length_replicate, ht]
      have HSR : Hid (∀ j v, (List.replicate t (Value.float .f32 x))[j]? = some v → wr.drew.cell? ((⟨w.heap.size, 0, none⟩ : Addr).add j) = some v) := by
        intro j v hj
        have hjt : j < t := by
          have := (List.getElem?_eq_some_iff.1 hj).1
          simpa using this
        rw [List.getElem?_replicate, if_pos hjt] at hj
        rw [Addr.add_lit, Nat.zero_add]
        show wr.cell? ⟨w.heap.size, j, none⟩ = some v
        rw [cell_of_row wr w.heap.size j _ 32 (0, 0) hg]
        rw [List.getElem?_toArray, zf_get x m k j (by omega)]
        exact hj
      have HFT : Hid (k + (List.replicate t (Value.float .f32 x)).length ≤ (zf x m k).length) := by
        show _ ≤ _
        rw [zf_length x m k hk, List.length_replicate]; omega
      have H1 := Lib.hid (repf_one t x)
      have HE : Hid ((splice (zf x m k) k (List.replicate t (.float .f32 x))).toArray = (zf x m (k + t)).toArray) := congrArg List.toArray (zf_splice x m k t ht1.2.1)
      have HNH := Lib.hid (setRow_heap wr.drew w.heap.size _ (zf x m (k + t)).toArray 32 (0, 0) HGd.out)
      have HNB := Lib.hid (below_setRow hb.drew (Nat.le_refl _) (zf x m (k + t)).toArray)
      obtain ⟨q1, q2, q3⟩ := ht1
      have e1 : (0 : Int) ≤ (k : Int) := by omega
      have e2 : (k : Int) ≤ (m : Int) := by omega
      have e3 : ¬ m = k := by omega
      have e4 : ¬ k = m := by omega
      have e5 : IntKind.i64.wrap ((k : Int) + (t : Int)) = (k : Int) + (t : Int) := IntWalk.i64_in _ (by omega)
      clear hg hb ht
      go_wp2
      go_region_held3 (fun _ => True) (trivial) (refine stepCopyPosF rfl (.tmp 41) (.tmp 44) 25 25 rfl 32 Try.underlying25 HS.out (some ⟨w.heap.size, k, none⟩) (some ⟨w.heap.size, 0, none⟩) (m - k) (m - k) k m rfl rfl w.heap.size k (zf x m k) 32 HGd.out (List.replicate t (.float .f32 x)) HN.out rfl ⟨w.heap.size, 0, none⟩ rfl HSR.out HFT.out H1.out ?_)
      rw [HE.out]
      have hNH := HNH.out
      have hNB := HNB.out
      generalize wr.drew.setRow w.heap.size (zf x m (k + t)).toArray = w3 at *
      simp only [goInt, List.length_replicate]
      go_roundw
      case rel =>
        refine ⟨_, _, _, _, _, _, _, _, _, _, _, _, _, _, ⟨k + t, by omega, q2, ?_, hNH, hNB⟩, rfl⟩
        go_num
      case measure => simp [intOf]; omega
    · obtain rfl : m = k := by omega
      go_wp2
      go_ret
      exact ⟨some ⟨w.heap.size, 0, none⟩, m, rfl, ⟨by simp, .inr ⟨w.heap.size, m, _, rfl, Nat.le_refl _, hg, Nat.le_refl _, by unfold maxLen; omega, by simp [zf], by simp [zf]⟩⟩, hb⟩
def evS (n : Nat) : List Nat := List.replicate n (qwC 1 n)
theorem ev_row {n : Nat} (n1 : 1 ≤ n) (n8 : n ≤ 8) : Rw1 (1 / 8000000) (evS n) n (fun _ => 1 / (n : Rat)) := by
  have k1 := nat_rat n1
  rw [show ((1 : Nat) : Rat) = 1 from rfl] at k1
  refine ⟨by simp [evS], n1, by omega, fun i hi => ?_, ?_⟩
  · have e : (evS n)[i]?.getD 0 = qwC 1 n := by simp [evS, List.getElem?_replicate, hi]
    rw [e]
    exact (rq_cnt (k := 1) (s := n) (by omega) n1 (by omega) n1).2
  · rw [smN_const, Rat.mul_comm]
    exact Rat.div_mul_cancel (by grind)
theorem ev_quo : ∀ n : Nat, n < 9 → 1 ≤ n → (floatBits .quo .f32 1065353216 (floatOfInt .f32 (n : Int))).isSome = true ∧ fA .quo .f32 1065353216 (floatOfInt .f32 (n : Int)) = qwC 1 n := by decide +kernel

theorem own_f32 (x : Nat) (w : World) : (w.alloc (.cells #[.float .f32 x] 32)).ownsRow w.heap.size 32 1 (.slice (some ⟨w.heap.size, 0, none⟩) 1 1) 1 [.float .f32 x] :=
  ⟨rfl, .inr ⟨w.heap.size, 1, _, rfl, Nat.le_refl _, heap_alloc_new w _, Nat.le_refl _, by unfold maxLen; omega, rfl, rfl⟩⟩

set_option maxRecDepth 4000 in
set_option maxHeartbeats 2000000 in
theorem EvenRow_any {n : Nat} (n1 : 1 ≤ n) (n8 : n ≤ 8) (w : World) :
    Calls Try.prog 46 #[.int .i64 (n : Int)] w fun e w' => (∃ a c, e = .returned (.tuple #[.slice a n c, .bool true]) ∧ SlR w' (.slice a n c) ((evS n).map (Value.float .f32))) ∧ Below w.heap.size w w' := by
  have HIN : Hid (inB (n : Int) 1 32 = true) := Lib.hid (by unfold inB; exact decide_eq_true (by omega))
  have R := ev_row n1 n8
  have HAR : Hid (∀ W z, SlR W z ((evS n).map (Value.float .f32)) → Calls Try.prog 68 #[z] W fun e w' => e = .returned (.tuple #[z, .bool true]) ∧ Qu W w') := Lib.hid fun W z hz => asRow_yes z _ W hz R.lt32 (R.row (by decide +kernel) (by decide +kernel) (by omega))
  obtain ⟨hq, he⟩ := ev_quo n (by omega) n1
  have HQ := Lib.hid he
  have HEV : Hid (List.replicate n (Value.float .f32 (qwC 1 n)) = (evS n).map (Value.float .f32)) := Lib.hid (by simp [evS])
  have HRP := Lib.hid (fun v W hv => repeatF_any n (qwC 1 n) v W n1 n8 hv)
  clear he R
  go_enter Try.func46, Try.ntmps46
  go_upto_region 3 with (go_at_call 60; refine (within_any _ _ _ _).mono ?_; rw [HIN.out]; rintro e w1 ⟨rfl, rfl⟩)
  go_wp2_with fail
  rw [HQ.out]
  refine (HRP.out _ _ (SlR.own (own_f32 _ _))).mono ?_
  rintro e w3 ⟨ao, co, rfl, hO, hb3⟩
  have hb : Below w.heap.size w w3 := ((Below.refl w.heap.size w).alloc (Nat.le_refl _) _).trans (hb3.mono (by rw [World.size_alloc]; omega))
  have hs := SlR.own hO
  rw [HEV.out] at hs
  clear hO hb3
  go_wp2_with (go_at_call 68; refine (HAR.out _ _ hs).mono ?_; rintro e w4 ⟨rfl, hq4⟩)
  go_ret2
  exact ⟨⟨ao, co, rfl, hs.below hq4.keep⟩, hb.trans (hq4.keep.mono hb.size)⟩

end Go.Proofs.Ytmocfnpbofeiiaa

/- Rows weighed by scores that are all 0 (TiltRow). -/
namespace Go.Proofs.Ytmocfnpbofeiiaa
set_option linter.unusedSimpArgs false
set_option linter.unusedVariables false
open Go.RowKit
open Ieee
def zrV (n : Nat) : List Value := (List.replicate n 0).map (Value.float .f32)
theorem zr_get {n k : Nat} (h : k < n) : (List.replicate n 0)[k]?.getD 0 = 0 := by simp [List.getElem?_replicate, h]

set_option maxHeartbeats 1000000 in
theorem areFinite1_any (w : World) : Calls Try.prog 128 #[.float .f32 0] w fun e w' => e = .returned (.bool false) ∧ Qu w w' := by
  have H := Lib.hid (fun W => implIsFinite_any 0 W)
  go_enter Try.func128, Try.ntmps128
  go_wp2_with (go_at_call 69; refine (H.out _).mono ?_; rw [show finB 0 = true by decide +kernel]; rintro e w' ⟨rfl, hq⟩)
  go_ret
  exact ⟨rfl, hq⟩

set_option maxHeartbeats 2000000 in
theorem indexFin_any {n : Nat} (n1 : 1 ≤ n) (n8 : n ≤ 8) (v : Value) (w : World) (hv : SlR w v (zrV n)) :
    Calls Try.prog 134 #[v, .func (.func 128) #[] #[]] w fun e w' => e = .returned (.int .i64 (-1)) ∧ Qu w w' := by
  obtain ⟨b, off, c, rfl, _, _, xcell⟩ := sl_cells hv (by simp) n1
  have HX := Lib.hid xcell
  have HA := Lib.hid areFinite1_any
  clear hv xcell
  go_enter Try.func134, Try.ntmps134
  go_wp2
  go_loopw [8] (fun i W => ∃ k : Nat, k ≤ n ∧ i = .int .i64 (k : Int) ∧ Qu w W) (fun i _ => n - (intOf i).toNat)
  case atStart => exact ⟨0, Nat.zero_le _, rfl, Qu.refl _⟩
  case round =>
    obtain ⟨k, hk, rfl, hq⟩ := hrel
    by_cases hlt : k < n
    · have hc := HX.out wr hq.keep k hlt
      rw [zr_get hlt] at hc
      go_wp2_with (go_at_call 128; refine (HA.out _).mono ?_; rintro e w1 ⟨rfl, hq1⟩)
      go_roundw
      case rel => exact ⟨k + 1, by omega, by go_num, hq.trans hq1⟩
      case measure => simp [intOf]; omega
    · obtain rfl : n = k := by omega
      go_wp2
      go_ret
      exact ⟨rfl, hq⟩

set_option maxHeartbeats 1000000 in
theorem areFinite_zeros {n : Nat} (n1 : 1 ≤ n) (n8 : n ≤ 8) (v : Value) (w : World) (hv : SlR w v (zrV n)) :
    Calls Try.prog 104 #[v] w fun e w' => e = .returned (.bool true) ∧ Qu w w' := by
  have HC : Hid (∀ W, Qu w W → Calls Try.prog 109 #[v, .func (.func 128) #[] #[]] W fun e w' => e = .returned (.bool false) ∧ Qu W w') := Lib.hid fun W hW => by
    have HI := Lib.hid (fun W2 (h2 : Qu W W2) => indexFin_any n1 n8 v W2 (hv.below (hW.trans h2).keep))
    obtain ⟨b, off, c, rfl, _⟩ := sl_cells hv (by simp) n1
    clear hv hW
    go_enter Try.func109, Try.ntmps109
    go_wp2_with (go_at_call 134; refine (HI.out _ (Qu.refl _)).mono ?_; rintro e w1 ⟨rfl, hq1⟩)
    go_ret
    exact ⟨rfl, hq1⟩
  obtain ⟨b, off, c, rfl, _⟩ := sl_cells hv (by simp) n1
  clear hv
  go_enter Try.func104, Try.ntmps104
  go_wp2_with (go_at_call 109; refine (HC.out _ (Qu.refl _)).mono ?_; rintro e w1 ⟨rfl, hq1⟩)
  go_ret
  exact ⟨rfl, hq1⟩
theorem mul_one_word {x : Nat} (hx : x < 2139095040) : (floatBits .mul .f32 x 1065353216).isSome = true ∧ fA .mul .f32 x 1065353216 = x := by
  by_cases h0 : x = 0
  · obtain ⟨a, b⟩ := fA_mul0 hx (show 1065353216 < 2139095040 by decide) (.inl h0)
    exact ⟨a, by rw [b, h0]⟩
  · have hf : Fnt single x := fin_of_lt single (by rw [s_inf]; exact hx)
    obtain ⟨w, w1, w2⟩ := mul_rnd (k_hf .f32) (x := x) (y := 1065353216) hf (fin_of_lt single (by rw [s_inf]; omega))
    obtain ⟨a1, a2⟩ := fA_of (op := .mul) (k := .f32) w1
    have e : sv single x = rv single x := sv_of_le single (by rw [s_inf]; omega)
    rw [show FloatKind.f32.format = single from rfl, rs1', Rat.mul_one, e] at w2
    have p := rv_pos (f := single) h0
    have av1 : av (rv single x) = rv single x := av_of_nonneg (Rat.le_of_lt p)
    have hw := w2.pos p
    have l := w2.le (K := x) (by rw [av1]; exact Rat.le_refl)
    have g := w2.ge (K := x) (by rw [s_inf]; omega) (by rw [av1]; exact Rat.le_refl)
    rw [rg_of_le single hw] at l g
    exact ⟨a1, by rw [a2]; omega⟩
/-- Sums that skip 0. -/
def tsS (xs : List Nat) : Nat → Nat
  | 0 => 0
  | t + 1 => if xs[t]?.getD 0 = 0 then tsS xs t else fA .add .f32 (tsS xs t) (xs[t]?.getD 0)
section
variable {xs : List Nat} {n : Nat} {p : Nat → Rat} (h : Rw1 (1 / 8000000) xs n p) (n8 : n ≤ 8)
include h n8
theorem Rw1.tsStep {t : Nat} (ht : t < n) (I : Rq (((t : Rat) + 1) / 8000000) (tsS xs t) (smN p t)) : (floatBits .add .f32 (tsS xs t) (xs[t]?.getD 0)).isSome = true ∧ Rq ((((t + 1 : Nat) : Rat) + 1) / 8000000) (fA .add .f32 (tsS xs t) (xs[t]?.getD 0)) (smN p t + p t) := by
  have k1 := nat_rat (show t ≤ 8 by omega)
  rw [show ((8 : Nat) : Rat) = 8 from rfl] at k1
  have k0 := nat_rat0 t
  have s1 := smN_mono (fun i hi => (h.el i hi).nn) (t + 1) ht
  rw [h.one] at s1
  simp only [smN] at s1
  exact rq_add I ((h.el t ht).mono (by grind)) (by grind) (by grind) (by rw [nat_rat1]; grind)
theorem Rw1.ts : ∀ t, t ≤ n → Rq (((t : Rat) + 1) / 8000000) (tsS xs t) (smN p t) := by
  intro t
  induction t with
  | zero =>
    intro _
    simp only [smN, tsS]
    exact Rq.zero _
  | succ t ih =>
    intro ht
    have I := ih (by omega)
    have k0 := nat_rat0 t
    have hz := (h.el t (by omega)).nil (show (1 : Rat) / 8000000 ≤ 1 / 1000 by decide +kernel)
    simp only [smN, tsS]
    by_cases h0 : p t = 0
    · rw [if_pos (hz.2 h0), h0, Rat.add_zero]
      exact I.mono (by rw [nat_rat1]; grind)
    · rw [if_neg (fun hc => h0 (hz.1 hc))]
      exact (h.tsStep n8 (by omega) I).2
theorem Rw1.tsum : Rq (9 / 8000000) (tsS xs n) 1 := by
  have T := h.ts n8 n (Nat.le_refl _)
  rw [h.one] at T
  have k1 := nat_rat n8
  rw [show ((8 : Nat) : Rat) = 8 from rfl] at k1
  exact T.mono (by grind)
theorem Rw1.tilt {i : Nat} (hi : i < n) : (floatBits .quo .f32 (xs[i]?.getD 0) (tsS xs n)).isSome = true ∧ Rq (1 / 500000) (fA .quo .f32 (xs[i]?.getD 0) (tsS xs n)) (p i) := by
  have X := h.el i hi
  have q1 : p i / 1 = p i := by rw [Rat.div_def, show (1 : Rat)⁻¹ = 1 by decide +kernel, Rat.mul_one]
  have D := rq_div (f := 1 / 500000) (g := 11 / 8000000) X (h.tsum n8) (by decide +kernel) (by rw [q1]; exact X.2.2.1) (by rw [q1]; exact X.2.2.2.1) (by decide +kernel) (by decide +kernel) (by decide +kernel) (by decide +kernel)
  rw [q1] at D
  exact D
end
def tlS (xs : List Nat) (s : Nat) : List Nat := xs.map fun x => fA .quo .f32 x s
theorem tlS_row {xs : List Nat} {n : Nat} {p : Nat → Rat} (h : Rw1 (1 / 8000000) xs n p) (n8 : n ≤ 8) : Rw1 (1 / 500000) (tlS xs (tsS xs n)) n p := by
  refine ⟨by simp [tlS, h.len], h.n1, h.n64, fun i hi => ?_, h.one⟩
  have e : (tlS xs (tsS xs n))[i]?.getD 0 = fA .quo .f32 (xs[i]?.getD 0) (tsS xs n) := by
    simp only [tlS, List.getElem?_map]
    rw [List.getElem?_eq_getElem (by rw [h.len]; exact hi)]
    rfl
  rw [e]
  exact (h.tilt n8 hi).2
def mdV (xs : List Nat) (s i : Nat) : List Value := ((xs.take i).map fun x => Value.float .f32 (fA .quo .f32 x s)) ++ (xs.drop i).map (Value.float .f32)
theorem mdV_zero (xs : List Nat) (s : Nat) : mdV xs s 0 = xs.map (Value.float .f32) := by simp [mdV]
theorem mdV_full (xs : List Nat) (s n : Nat) (h : xs.length = n) : mdV xs s n = (tlS xs s).map (Value.float .f32) := by simp [mdV, tlS, ← h]
theorem mdV_at (xs : List Nat) (s i : Nat) (h : i < xs.length) : (mdV xs s i)[i]? = some (.float .f32 (xs[i]?.getD 0)) := by
  unfold mdV
  rw [List.getElem?_append_right (by simp; omega)]
  simp [h, Nat.min_eq_left (Nat.le_of_lt h)]
theorem mdV_set (xs : List Nat) (s i : Nat) (h : i < xs.length) : (mdV xs s i).set i (.float .f32 (fA .quo .f32 (xs[i]?.getD 0) s)) = mdV xs s (i + 1) := by
  unfold mdV
  have hl : ((xs.take i).map fun x => Value.float .f32 (fA .quo .f32 x s)).length = i := by simp; omega
  rw [List.set_append_right _ _ (by rw [hl]; exact Nat.le_refl _), hl, Nat.sub_self, List.drop_eq_getElem_cons h, List.map_cons, List.set_cons_zero, List.take_add_one, List.map_append]
  simp [h]

set_option maxRecDepth 4000 in
set_option maxHeartbeats 4000000 in
theorem TiltRow_any {xs : List Nat} {n : Nat} {p : Nat → Rat} (h : Rw1 (1 / 8000000) xs n p) (n8 : n ≤ 8) (w : World) (v u : Value) (hv : SlR w v (xs.map (Value.float .f32))) (hu : SlR w u (zrV n)) :
    Calls Try.prog 53 #[v, u, .float .f32 1065353216] w fun e w' => (∃ a c, e = .returned (.tuple #[.slice a n c, .bool true]) ∧ SlR w' (.slice a n c) ((tlS xs (tsS xs n)).map (Value.float .f32))) ∧ Below w.heap.size w w' := by
  obtain ⟨i0, hi0, hz00, hz01, hz02⟩ := info_parts info_Float32S
  have n1 := h.n1
  have T := tlS_row h n8
  have HAR : Hid (∀ W z, SlR W z ((tlS xs (tsS xs n)).map (Value.float .f32)) → Calls Try.prog 68 #[z] W fun e w' => e = .returned (.tuple #[z, .bool true]) ∧ Qu W w') := Lib.hid fun W z hz => asRow_yes z _ W hz T.lt32 (T.row (by decide +kernel) (by decide +kernel) (by omega))
  have HIR : Hid (∀ W, Qu w W → Calls Try.prog 50 #[v] W fun e w' => e = .returned (.bool true) ∧ Qu W w') := Lib.hid fun W hW => by
    have := isRow_any v xs W (hv.below hW.keep) h.lt32
    rwa [h.row (by decide +kernel) (by decide +kernel) (by omega)] at this
  have HAF : Hid (∀ W, Qu w W → Calls Try.prog 104 #[u] W fun e w' => e = .returned (.bool true) ∧ Qu W w') := Lib.hid fun W hW => areFinite_zeros n1 n8 u W (hu.below hW.keep)
  have S0 := h.tsum n8
  have s0 := S0.pos (by decide +kernel) (by decide +kernel)
  have HFI : Hid (∀ x W, x < 2139095040 → Calls Try.prog 69 #[.float .f32 x] W fun e w' => e = .returned (.bool true) ∧ Qu W w') := Lib.hid fun x W hx => by
    have := implIsFinite_any x W
    rwa [(fin_ok (fin_of_lt single (by rw [s_inf]; exact hx))).1] at this
  have HEX : Hid (∀ W, Calls Try.prog 102 #[.float .f32 0] W fun e w' => e = .returned (.float .f32 1065353216) ∧ W = w') := Lib.hid fun W => by
    have := implExp_any 0 W (by unfold Fnt; decide +kernel) (by decide +kernel)
    rwa [exF_zero.1] at this
  have slt := S0.1
  have sgt := order_x0 s0.1 slt
  obtain ⟨b, off, c, rfl, _, _, xcell⟩ := sl_cells hv h.len n1
  obtain ⟨b2, off2, c2, rfl, _, _, ycell⟩ := sl_cells hu (by simp) n1
  have HX := Lib.hid xcell
  have HY := Lib.hid ycell
  have HV : Hid (∀ t, t < n → (floatBits .mul .f32 (xs[t]?.getD 0) 1065353216).isSome = true ∧ fA .mul .f32 (xs[t]?.getD 0) 1065353216 = xs[t]?.getD 0 ∧ ((FloatKind.f32.format.order (xs[t]?.getD 0) 0 = some .eq ∧ tsS xs (t + 1) = tsS xs t) ∨ (FloatKind.f32.format.order (xs[t]?.getD 0) 0 = some .gt ∧ (floatBits .add .f32 (tsS xs t) (xs[t]?.getD 0)).isSome = true ∧ tsS xs (t + 1) = fA .add .f32 (tsS xs t) (xs[t]?.getD 0)))) := Lib.hid fun t ht => by
    have R := h.el t ht
    have hz := R.nil (show (1 : Rat) / 8000000 ≤ 1 / 1000 by decide +kernel)
    obtain ⟨m1, m2⟩ := mul_one_word R.1
    refine ⟨m1, m2, ?_⟩
    by_cases h0 : p t = 0
    · left
      simp only [tsS]
      rw [if_pos (hz.2 h0), hz.2 h0]
      exact ⟨rfl, rfl⟩
    · right
      have x0 := (R.pos (by decide +kernel) h0).1
      refine ⟨order_x0 x0 R.1, (h.tsStep n8 ht (h.ts n8 t (by omega))).1, ?_⟩
      simp only [tsS]
      rw [if_neg (by omega)]
  have HQ := Lib.hid (fun i hi => (h.tilt n8 (i := i) hi).1)
  have HTK : Hid (∀ t, t < n → (xs.take t).map (Value.float .f32) ++ [.float .f32 (xs[t]?.getD 0)] = (xs.take (t + 1)).map (Value.float .f32)) := Lib.hid fun t ht => by
    rw [List.take_add_one, List.map_append]
    simp [h.len, ht]
  have hm0 : (floatBits .mul .f32 1065353216 0).isSome = true := by decide +kernel
  have hm1 : fA .mul .f32 1065353216 0 = 0 := by decide +kernel
  have HLEN := Lib.hid h.len
  have HFULL : Hid ((xs.take n).map (Value.float .f32) = mdV xs (tsS xs n) 0) := Lib.hid (by rw [mdV_zero, List.take_of_length_le (by rw [h.len]; exact Nat.le_refl _)])
  clear hv hu xcell ycell h T S0 s0
  generalize hS : tsS xs n = S at *
  have HSE := Lib.hid hS
  clear hS
  go_enter Try.func53, Try.ntmps53
  go_upto_region 3 with (first
    | (go_at_call 69; refine (HFI.out _ _ (by decide)).mono ?_; rintro e w3 ⟨rfl, hq3⟩; have hq13 := hq12.trans hq3)
    | (go_at_call 104; refine (HAF.out _ hq1).mono ?_; rintro e w2 ⟨rfl, hq2⟩; have hq12 := hq1.trans hq2)
    | (go_at_call 50; refine (HIR.out _ (Qu.refl _)).mono ?_; rintro e w1 ⟨rfl, hq1⟩))
  have HK := Lib.hid hq13.keep
  clear hq1 hq2 hq3 hq12 hq13
  go_upto_region 6 with fail
  have hown0 : (w3.alloc (.cells #[] 32)).ownsRow w3.heap.size 32 1 (.slice (some ⟨w3.heap.size, 0, none⟩) 0 0) 0 [] := World.ownsRow_made w3 #[] 0 (Nat.le_refl _) (Nat.zero_le _) rfl
  have hb0 : Below w3.heap.size w3 (w3.alloc (.cells #[] 32)) := by go_grown
  go_loopw [8, 9, 37] (fun u s i wr => ∃ t : Nat, t ≤ n ∧ i = .int .i64 (t : Int) ∧ s = .float .f32 (tsS xs t) ∧ wr.ownsRow w3.heap.size 32 1 u t ((xs.take t).map (Value.float .f32)) ∧ Below w3.heap.size w3 wr) (fun _ _ i _ => n - (intOf i).toNat)
  case atStart => exact ⟨0, Nat.zero_le _, rfl, rfl, hown0, hb0⟩
  case round =>
    clear hown0 hb0
    obtain ⟨t, ht, rfl, rfl, hown, hb⟩ := hrel
    have hbs := hb.size
    by_cases hlt : t < n
    · have hbw := HK.out.trans (hb.mono HK.out.size)
      have hc := HX.out wr hbw t hlt
      have hd := HY.out wr hbw t hlt
      rw [zr_get hlt] at hd
      obtain ⟨m1, m2, m3⟩ := HV.out t hlt
      have HS := Lib.hid (HTK.out t hlt)
      generalize xs[t]?.getD 0 = x at *
      rcases m3 with ⟨m3, m4⟩ | ⟨m3, m5, m4⟩
      all_goals
        have HM := Lib.hid m4
        clear m4
        go_upto_region 9 with (go_at_call 102; refine (HEX.out _).mono ?_; rintro e w4 ⟨rfl, rfl⟩)
        go_wp2_with (at_builtin; refine wpList_append_own _ rfl _ _ 25 rfl w3.heap.size 32 i0 (.float .f32 0) 1 4 Try.underlying25 hi0 hz00 hz01 hz02 rfl (by decide) u8 _ _ rfl (hown.alloc _) ⟨(World.heap wr).size, 0, none⟩ 1 1 [.float .f32 x] rfl rfl (cell_one_new _ _ _) (one_oneCell rfl) (by unfold maxLen; omega) (by omega) (by simp only [World.size_alloc]; have := hb.size; omega) ?_; intro v1 w1 hown1 hgx _; have hb1 := app_below hb (by have := hb.size; omega) _ hgx hown (by omega))
        rw [HS.out] at hown1
        go_roundw
        case rel => exact ⟨t + 1, by omega, by go_num, by rw [HM.out], hown1, hb1⟩
        case measure => simp [intOf]; omega
    · obtain rfl : n = t := by omega
      clear HX HY HV HTK HEX HAF HIR hm0 hm1
      rw [HFULL.out] at hown
      obtain ⟨a3, c3, rfl⟩ := ownsRow_shape hown
      obtain ⟨g, rfl, hgW, hgl⟩ := own_some hown n1
      have HSL := Lib.hid slt
      clear slt
      rw [HSE.out]
      go_upto_region 16 with (go_at_call 69; refine (HFI.out _ _ HSL.out).mono ?_; rintro e w5 ⟨rfl, m5, rfl⟩)
      have hownD : (wr.drewN m5).ownsRow w3.heap.size 32 1 (.slice (some ⟨g, 0, none⟩) n c3) n (mdV xs S 0) := ownsRow_below hown ((Qu.refl _).drewN m5).keep
      have hbD : Below w3.heap.size w3 (wr.drewN m5) := hb.trans (((Qu.refl wr).drewN m5).keep.mono hb.size)
      have HGL := Lib.hid hgW
      clear hown hb hgl
      go_loopw [71] (fun q w2 => ∃ i : Nat, i ≤ n ∧ q = .int .i64 (i : Int) ∧ w2.ownsRow w3.heap.size 32 1 (.slice (some ⟨g, 0, none⟩) n c3) n (mdV xs S i) ∧ Below w3.heap.size w3 w2) (fun q _ => n - (intOf q).toNat)
      case atStart => exact ⟨0, Nat.zero_le _, rfl, hownD, hbD⟩
      case round =>
        clear hownD hbD
        obtain ⟨i, hi, rfl, hown, hb⟩ := hrel
        by_cases hil : i < n
        · have hc := hown.cellAt i (by omega)
          rw [mdV_at xs S i (by rw [HLEN.out]; exact hil)] at hc
          have hf := hown.frozenAt i
          have hq := HQ.out i hil
          have HST := Lib.hid (hown.stored i (.float .f32 (fA .quo .f32 (xs[i]?.getD 0) S)))
          have HSM := Lib.hid (mdV_set xs S i (by rw [HLEN.out]; exact hil))
          generalize xs[i]?.getD 0 = x at *
          go_wp2
          go_roundw
          case rel => exact ⟨i + 1, by omega, by go_num, by rw [← HSM.out]; exact HST.out.1, hb.setCell HGL.out _⟩
          case measure => simp [intOf]; omega
        · obtain rfl : i = n := by omega
          rw [mdV_full xs S i HLEN.out] at hown
          have hs := SlR.own hown
          clear hown
          go_wp2_with (go_at_call 68; refine (HAR.out _ _ hs).mono ?_; rintro e w6 ⟨rfl, hq6⟩)
          go_ret2
          exact ⟨⟨_, _, rfl, hs.below hq6.keep⟩, (HK.out.trans (hb.mono HK.out.size)).trans (hq6.keep.mono (HK.out.trans (hb.mono HK.out.size)).size)⟩

end Go.Proofs.Ytmocfnpbofeiiaa
