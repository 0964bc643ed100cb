/- Fibonacci numbers as texts: slices.Repeat of one byte. -/
import Derived.Test.YtjobgobeiiakgaaDoorMGam
import Derived.Laws.CopyOwn
import Derived.Deep.RegionHeld3
import Derived.IntWalk
import Derived.Deep.AppendLies
import Derived.Deep.RegionLaw
import Derived.BigRegion
namespace Go.Proofs.YtjobgobeiiakgaaDoor
set_option linter.unusedSimpArgs false
set_option linter.unusedVariables false
open Go.RowKit

theorem stepCopyPos {P : Program} {ops : Array Oper} {o : Oper} {a : Act} {w : World} {K : Act → World → Prop} {Q : Exit → Act → World → Prop} {E : Prop} (hgd : o.guard = none) (d s : Operand) (dT sT : TypeId)
    (ho : o.op = .call { callee := .builtin .copy, args := #[d, s], argTypes := #[dT, sT] }) (elem : TypeId) (hu : P.underlying dT = some (.slice elem)) (hsz : (P.info? elem).map (·.size) = some 1)
    (dp sp : Option Addr) (dLen dCap sLen sCap : Nat) (hd : a.eval d = .slice dp dLen dCap) (hs : a.eval s = .slice sp sLen sCap)
    (g off : Nat) (cur : List Value) (t : TypeId) (hg : w.heap[g]? = some (.cells cur.toArray t (0, 0))) (cs : List Value) (hn : cs.length = Nat.min sLen dLen)
    (hdp : dp = some ⟨g, off, none⟩) (ad : Addr) (hsp : sp = some ad) (hsrc : ∀ j v, cs[j]? = some v → w.cell? (ad.add j) = some v)
    (hfit : off + cs.length ≤ cur.length) (h1 : ∀ v ∈ cs, v.oneCell' = true)
    (h : K (a.put o.dst (goInt cs.length)) (w.setRow g (splice cur off cs).toArray)) :
    if Region.wanted o (yielded ops a.tmps) = true then Oper.wp P o a w K Q else E := by
  have hw : Region.wanted o (yielded ops a.tmps) = true := by simp [Region.wanted, hgd]
  rw [if_pos hw]
  subst hdp hsp
  have hrun := run_copy_row (P := P) w dT sT o.type elem g off dLen dCap ad sLen sCap cur.toArray t cs hu hsz hg hn hsrc (by simpa using hfit) h1
  unfold Oper.wp
  simp [execOp, ho, resolve, invoke, builtin, hd, hs, hrun, Result.andThen]
  exact h

/-- k bytes '0', and then 0. -/
def zs (m k : Nat) : List Value := List.replicate k (.int .u8 48) ++ List.replicate (m - k) (.int .u8 0)
theorem zs_length (m k : Nat) (h : k ≤ m) : (zs m k).length = m := by simp [zs]; omega
theorem zs_full (m : Nat) : zs m m = List.replicate m (.int .u8 48) := by simp [zs]
theorem zs_get (m k j : Nat) (h : j < k) : (zs m k)[j]? = some (.int .u8 48) := by
  unfold zs
  rw [List.getElem?_append_left (by simpa using h), List.getElem?_replicate, if_pos h]
theorem zs_splice (m k t : Nat) (h : k + t ≤ m) : splice (zs m k) k (List.replicate t (.int .u8 48)) = zs m (k + t) := by
  have hl : (List.replicate k (Value.int .u8 48)).length = k := List.length_replicate
  unfold splice zs
  rw [List.take_left' hl, List.length_replicate, List.drop_append, hl, List.drop_of_length_le (by rw [hl]; omega), List.nil_append, List.drop_replicate, ← List.append_assoc, List.replicate_append_replicate]
  congr 2
  omega
theorem reps_one (m : Nat) (x : Int) : ∀ v ∈ List.replicate m (Value.int .u8 x), v.oneCell' = true := by
  intro v hv
  rw [List.mem_replicate] at hv
  rw [hv.2]; rfl

theorem info_byte : (Tryd.prog.info? 5).map (fun i => (i.zero, i.size, i.bytes)) = some (some (.int .u8 0), 1, 1) := by kernel_rfl

set_option maxRecDepth 100000 in
set_option maxHeartbeats 1000000 in
theorem repeatB_any (m : Nat) (v : Value) (w : World) (h1 : 1 ≤ m) (hm : m ≤ 64) (hv : SlR w v [.int .u8 48]) :
    Calls Tryd.prog 35 #[v, .int .i64 m] w (RetSl w 5 m (List.replicate m (.int .u8 48)) id) := by
  obtain ⟨i0, hi, hz0, hz1, hz2⟩ := info_parts info_byte
  obtain ⟨a, n, c, rfl, hnl, hnc, hcm, hcell⟩ := SlR.opened (f := Value.int .u8) (l := [48]) 0 hv
  have hn1 : n = 1 := by simpa using hnl.symm
  subst hn1
  obtain ⟨b, off, rfl, hc, hbl⟩ := hcell 0 (by omega)
  have hc : w.cell? ⟨b, off, none⟩ = some (.int .u8 48) := hc
  have hsz : (Tryd.prog.info? 5).map (·.size) = some 1 := by kernel_rfl
  have HS := Lib.hid hsz
  have HML : Hid (∀ w, Calls Tryd.prog 59 #[.int .u64 1, .int .u64 m] w fun e w' => e = .returned (.tuple #[.int .u64 0, .int .u64 m]) ∧ w = w') := by
    show ∀ w, _
    intro w
    have h := Tryd.bits_Mul 1 m (by omega) (by omega) w
    have e1 : 1 * m / 18446744073709551616 = 0 := by omega
    have e2 : 1 * m % 18446744073709551616 = m := by omega
    rw [e1, e2] at h
    exact h.mono fun e w' hh => ⟨hh.1, hh.2.symm⟩
  clear hcell hnl hsz
  unfold maxLen at hcm
  go_enter Tryd.func35, Tryd.ntmps35
  go_wp2_with (first | (go_at_call 59; refine (HML.out _).mono ?_; rintro e w' ⟨rfl, rfl⟩) | (at_make; refine wpList_make_full _ rfl _ _ 22 rfl w.heap.size 5 i0 (.int .u8 0) 1 Tryd.underlying22 hi hz0 hz1 .i64 .i64 _ _ m rfl rfl rfl rfl (by rw [hz2]; omega) (by unfold maxLen; omega) (Nat.le_refl _) ?_; intro w1 hown hgr))
  have hb1 : Below w.heap.size w w1 := (Below.refl _ _).grown hgr (Nat.le_refl _) (by simp)
  rw [Nat.mul_one, show (Value.cells (.int .u8 0)) = #[.int .u8 0] from rfl, toList_madeCells_one] at hown
  obtain ⟨hlen, hcase⟩ := hown
  rcases hcase with ⟨h, _⟩ | ⟨g', cap, cur, hv', hBg, hg, hnc', hcm', hcs, htake⟩
  · simp at h
  simp only [Value.slice.injEq, Option.some.injEq, Addr.mk.injEq, and_true, true_and] at hv'
  obtain ⟨rfl, rfl⟩ := hv'
  have hcur : cur = (zs m 0).toArray := by
    rw [Nat.mul_one] at hcs htake
    rw [List.take_of_length_le (by simp; omega)] at htake
    rw [← Array.toArray_toList (xs := cur), htake]
    simp [zs]
  subst hcur
  have hcp := run_copy_row (P := Tryd.prog) w1 22 22 3 5 w.heap.size 0 m m ⟨b, off, none⟩ 1 c (zs m 0).toArray 5 [.int .u8 48] Tryd.underlying22 HS.out hg (by show 1 = min 1 m; omega) (fun j v hj => by
    have hj0 : j = 0 := by
      have := (List.getElem?_eq_some_iff.1 hj).1
      simpa using this
    subst hj0
    rw [Addr.add_lit, Nat.add_zero]
    rw [show w1.cell? ⟨b, off, none⟩ = w.cell? ⟨b, off, none⟩ from hb1.cell (p := ⟨b, off, none⟩) hbl, hc]
    simpa using hj) (by simp [zs]; omega) (reps_one 1 48)
  rw [show (((zs m 0).toArray.toList.take 0 ++ [Value.int .u8 48] ++ (zs m 0).toArray.toList.drop (0 + [Value.int .u8 48].length)).toArray) = (zs m 1).toArray by
    have h := zs_splice m 0 1 (by omega)
    simp only [splice, List.replicate_one, Nat.zero_add] at h
    simp only [List.append_assoc, Nat.zero_add]
    exact congrArg List.toArray h] at hcp
  have hg2 := setRow_heap w1 w.heap.size _ (zs m 1).toArray 5 (0, 0) hg
  have hb2 := below_setRow hb1 (Nat.le_refl _) (zs m 1).toArray
  generalize w1.setRow w.heap.size (zs m 1).toArray = w2 at *
  rw [hcp]
  clear hg hcp hb1 hgr
  go_wp2
  go_loopw [8] (fun i wr => ∃ k : Nat, 1 ≤ k ∧ k ≤ m ∧ i = .int .i64 k ∧ wr.heap[w.heap.size]? = some (.cells (zs m k).toArray 5 (0, 0)) ∧ Below w.heap.size w wr) (fun i _ => m - (intOf i).toNat)
  case atStart => exact ⟨1, Nat.le_refl _, h1, rfl, hg2, hb2⟩
  case round =>
    clear hg2 hb2
    obtain ⟨k, hk1, hk, rfl, hg, hb⟩ := hrel
    by_cases hlt : k < m
    · obtain ⟨t, ht⟩ : ∃ t, t = Nat.min k (m - k) := ⟨_, rfl⟩
      have ht1 : 1 ≤ t ∧ k + t ≤ m ∧ t ≤ k := by
        have : Nat.min k (m - k) = min k (m - k) := rfl
        omega
      have HGd : Hid (wr.drew.heap[w.heap.size]? = some (.cells (zs m k).toArray 5 (0, 0))) := hg
      have HN : Hid ((List.replicate t (Value.int .u8 48)).length = Nat.min k (m - k)) := by show _ = _; rw [List.length_replicate, ht]
      have HSR : Hid (∀ j v, (List.replicate t (Value.int .u8 48))[j]? = some v → wr.drew.cell? ((⟨w.heap.size, 0, none⟩ : Addr).add j) = some v) := by
        intro j v hj
        have hjt : j < t := by
          have := (List.getElem?_eq_some_iff.1 hj).1
          simpa using this
        rw [List.getElem?_replicate, if_pos hjt] at hj
        rw [Addr.add_lit, Nat.zero_add]
        show wr.cell? ⟨w.heap.size, j, none⟩ = some v
        rw [cell_of_row wr w.heap.size j _ 5 (0, 0) hg]
        rw [List.getElem?_toArray, zs_get m k j (by omega)]
        exact hj
      have HFT : Hid (k + (List.replicate t (Value.int .u8 48)).length ≤ (zs m k).length) := by
        show _ ≤ _
        rw [zs_length m k hk, List.length_replicate]; omega
      have H1 := Lib.hid (reps_one t 48)
      have HE : Hid ((splice (zs m k) k (List.replicate t (.int .u8 48))).toArray = (zs m (k + t)).toArray) := congrArg List.toArray (zs_splice m k t ht1.2.1)
      have HNH := Lib.hid (setRow_heap wr.drew w.heap.size _ (zs m (k + t)).toArray 5 (0, 0) HGd.out)
      have HNB := Lib.hid (below_setRow hb.drew (Nat.le_refl _) (zs m (k + t)).toArray)
      obtain ⟨q1, q2, q3⟩ := ht1
      have e1 : (0 : Int) ≤ (k : Int) := by omega
      have e2 : (k : Int) ≤ (m : Int) := by omega
      have e3 : ¬ m = k := by omega
      have e4 : ¬ k = m := by omega
      have e5 : IntKind.i64.wrap ((k : Int) + (t : Int)) = (k : Int) + (t : Int) := IntWalk.i64_in _ (by omega)
      clear hg hb ht
      go_wp2
      go_region_held3 (fun _ => True) (trivial) (refine stepCopyPos rfl (.tmp 41) (.tmp 44) 22 22 rfl 5 Tryd.underlying22 HS.out (some ⟨w.heap.size, k, none⟩) (some ⟨w.heap.size, 0, none⟩) (m - k) (m - k) k m rfl rfl w.heap.size k (zs m k) 5 HGd.out (List.replicate t (.int .u8 48)) HN.out rfl ⟨w.heap.size, 0, none⟩ rfl HSR.out HFT.out H1.out ?_)
      rw [HE.out]
      have hNH := HNH.out
      have hNB := HNB.out
      generalize wr.drew.setRow w.heap.size (zs m (k + t)).toArray = w3 at *
      simp only [goInt, List.length_replicate]
      go_roundw
      case rel =>
        refine ⟨_, _, _, _, _, _, _, _, _, _, _, _, _, _, ⟨k + t, by omega, q2, ?_, hNH, hNB⟩, rfl⟩
        go_num
      case measure => simp [intOf]; omega
    · obtain rfl : m = k := by omega
      go_wp2
      go_ret
      exact ⟨some ⟨w.heap.size, 0, none⟩, m, rfl, ⟨by simp, .inr ⟨w.heap.size, m, _, rfl, Nat.le_refl _, hg, Nat.le_refl _, by unfold maxLen; omega, by simp [zs], by simp [zs]⟩⟩, hb⟩

end Go.Proofs.YtjobgobeiiakgaaDoor

/- Fibonacci numbers as texts: the given side. -/
namespace Go.Proofs.YtjobgobeiiakgaaDoor
set_option linter.unusedSimpArgs false
set_option linter.unusedVariables false
open Go.RowKit

def fibN : Nat → Nat
  | 0 => 1
  | 1 => 2
  | n + 2 => fibN (n + 1) + fibN n
def fl (m : Nat) : List Int := (List.range m).map (fun i => (fibN i : Int))
theorem fl_length (m : Nat) : (fl m).length = m := by simp [fl]
theorem fl_succ (m : Nat) : fl (m + 1) = fl m ++ [(fibN m : Int)] := by simp [fl, List.range_succ]
theorem fl_cell (m i : Nat) (h : i < m) : ((fl m).map (Value.int .i64))[i]? = some (.int .i64 (fibN i)) := by simp [fl, h]
/-- The first place from m on whose number is above n. -/
def fm : Nat → Nat → Nat → Nat
  | 0, m, _ => m
  | f + 1, m, n => if fibN m ≤ n then fm f (m + 1) n else m
def slLen : Value → Nat
  | .slice _ n _ => n
  | _ => 0
def fibTop (n : Nat) : Nat := fm 40 1 n
/-- The digits of places 0 .. k-1 for what is left. -/
def gr : Nat → Nat → List UInt8
  | 0, _ => []
  | k + 1, r => if fibN k ≤ r then gr k (r - fibN k) ++ [49] else gr k r ++ [48]
theorem gr_length : ∀ k r, (gr k r).length = k
  | 0, _ => rfl
  | k + 1, r => by
    unfold gr
    split <;> simp [gr_length k]
def fibT (n : Nat) : List UInt8 := gr (fibTop n) n ++ [49]
theorem fib30 : fibN 30 = 2178309 := rfl
theorem fm_step {p n : Nat} (hp : p ≤ 29) (h : fibN (p + 1) ≤ n) : fm (40 - p) (p + 1) n = fm (40 - (p + 1)) (p + 1 + 1) n := by
  rw [show 40 - p = (40 - (p + 1)) + 1 by omega, fm, if_pos h]
theorem fm_stop {p n : Nat} (hp : p ≤ 29) (h : ¬ fibN (p + 1) ≤ n) : fm (40 - p) (p + 1) n = p + 1 := by
  rw [show 40 - p = (39 - p) + 1 by omega, fm, if_neg h]
theorem own_two (w : World) : (w.alloc (.cells #[.int .i64 1, .int .i64 2] 2)).ownsRow w.heap.size 2 1 (.slice (some ⟨w.heap.size, 0, none⟩) 2 2) 2 ((fl 2).map (Value.int .i64)) :=
  ⟨rfl, .inr ⟨w.heap.size, 2, _, rfl, Nat.le_refl _, heap_alloc_new w _, Nat.le_refl _, by unfold maxLen; omega, rfl, rfl⟩⟩
def out_FibonacciOf (n : Int) : ByteArray × Bool := outNum n fibT
theorem fm_le : ∀ f m n, fm f m n ≤ m + f
  | 0, m, n => Nat.le_refl _
  | f + 1, m, n => by
    unfold fm
    split
    · have := fm_le f (m + 1) n; omega
    · omega
theorem fibT_length (n : Nat) : (fibT n).length ≤ 64 := by
  have : fibTop n ≤ 1 + 40 := fm_le 40 1 n
  simp [fibT, gr_length]; omega

end Go.Proofs.YtjobgobeiiakgaaDoor

/- Fibonacci numbers as texts: the side of the program. -/
namespace Go.Proofs.YtjobgobeiiakgaaDoor
set_option linter.unusedSimpArgs false
set_option linter.unusedVariables false
open Go.RowKit

theorem own_48 (w : World) : (w.alloc (.cells #[.int .u8 48] 5)).ownsRow w.heap.size 5 1 (.slice (some ⟨w.heap.size, 0, none⟩) 1 1) 1 [.int .u8 48] :=
  ⟨rfl, .inr ⟨w.heap.size, 1, _, rfl, Nat.le_refl _, heap_alloc_new w _, Nat.le_refl _, by unfold maxLen; omega, rfl, rfl⟩⟩
def bm (l : List UInt8) : List Value := l.map (fun c : UInt8 => Value.int .u8 (c.toNat : Int))
theorem bm_length (l : List UInt8) : (bm l).length = l.length := by simp [bm]
theorem bm_start (k : Nat) : List.replicate k (Value.int .u8 48) = bm (List.replicate k 48 ++ []) := by simp [bm]
theorem bm_set (i : Nat) (l : List UInt8) : (bm (List.replicate (i + 1) 48 ++ l)).set i (.int .u8 49) = bm (List.replicate i 48 ++ (49 :: l)) := by
  unfold bm
  rw [List.replicate_succ', List.append_assoc, List.map_append, List.map_append, List.set_append_right _ _ (by simp)]
  simp
theorem rep_shift (i : Nat) (l : List UInt8) : List.replicate (i + 1) 48 ++ l = List.replicate i 48 ++ (48 :: l) := by
  rw [List.replicate_succ', List.append_assoc]; rfl
theorem own_cap {w : World} {b : Nat} {e : TypeId} {g n c m : Nat} {xs : List Value} (h : w.ownsRow b e 1 (.slice (some ⟨g, 0, none⟩) n c) m xs) : m ≤ c ∧ c ≤ maxLen := by
  rcases h.2 with ⟨h1, _⟩ | ⟨g', cap, cur, hv, hg, hh, hnc, hcm, r⟩
  · simp at h1
  · simp only [Value.slice.injEq] at hv
    obtain ⟨_, _, rfl⟩ := hv
    exact ⟨hnc, hcm⟩

set_option maxRecDepth 100000 in
set_option maxHeartbeats 2000000 in
theorem impl_FibonacciOf (w : World) (n0 : Int) (_ : I64 n0) :
    Calls Tryd.prog 14 #[.int .i64 n0] w fun e w' => e = .returned (.tuple #[.string (out_FibonacciOf n0).1, .bool (out_FibonacciOf n0).2]) ∧ Below w.heap.size w w' := by
  obtain ⟨i0, hi0, hz00, hz01, hz02⟩ := info_parts info_Int64S
  generalize ht : inB n0 1 1000000 = t
  have HT := Lib.hid ht
  cases t
  · rw [out_FibonacciOf, outNum_no _ ht]
    clear ht
    go_enter Tryd.func14, Tryd.ntmps14
    go_wp2_with (go_at_call 32; refine (isCounted_any _ _).mono ?_; rw [HT.out]; rintro e w' ⟨rfl, rfl⟩)
    go_ret2
    exact ⟨rfl, Below.refl _ _⟩
  obtain ⟨h1, hn⟩ := inB_true ht
  obtain ⟨n, rfl⟩ : ∃ m : Nat, n0 = (m : Int) := ⟨n0.toNat, by omega⟩
  rw [out_FibonacciOf, outNum_yes _ ht]
  clear ht
  replace h1 : 1 ≤ n := by omega
  replace hn : n ≤ 1000000 := by omega
  go_enter Tryd.func14, Tryd.ntmps14
  go_wp2_with (go_at_call 32; refine (isCounted_any _ _).mono ?_; rw [HT.out]; rintro e w' ⟨rfl, rfl⟩)
  go_loopw [4] (fun v wr => ∃ p : Nat, p ≤ 29 ∧ wr.ownsRow w.heap.size 2 1 v (p + 2) ((fl (p + 2)).map (Value.int .i64)) ∧ Below w.heap.size w wr ∧ fm (40 - p) (p + 1) n = fibTop n ∧ fibN p ≤ n) (fun v _ => 64 - slLen v)
  case atStart => exact ⟨0, by omega, own_two w, by go_grown, rfl, h1⟩
  case round =>
    obtain ⟨p, hp, hown, hb, hfm, hpn⟩ := hrel
    have hbs := hb.size
    obtain ⟨a, c, rfl⟩ := ownsRow_shape hown
    obtain ⟨g, rfl, hgB, hgl⟩ := own_some hown (by omega)
    have hc1 := hown.cellAt (p + 1) (by omega)
    have hc0 := hown.cellAt p (by omega)
    rw [fl_cell _ (p + 1) (by omega)] at hc1
    rw [fl_cell _ p (by omega)] at hc0
    by_cases hle : fibN (p + 1) ≤ n
    · have hp29 : p < 29 := by
        by_cases h : p = 29
        · subst h; rw [fib30] at hle; omega
        · omega
      rw [fm_step hp hle] at hfm
      have HF := Lib.hid hfm
      have HN2 : Hid (fibN (p + 2) = fibN (p + 1) + fibN p) := rfl
      have HFL := Lib.hid (fl_succ (p + 2))
      clear hfm
      generalize hx : fibN (p + 1) = x at *
      generalize fibN p = y at *
      have e1 : IntKind.i64.wrap ((x : Int) + (y : Int)) = (x : Int) + (y : Int) := IntWalk.i64_in _ (by omega)
      have howna : (wr.alloc (.cells #[.int .i64 ((x : Int) + (y : Int))] 2)).drew.ownsRow w.heap.size 2 1 (.slice (some ⟨g, 0, none⟩) (p + 2) c) (p + 2) ((fl (p + 2)).map (Value.int .i64)) := hown.alloc (.cells #[.int .i64 ((x : Int) + (y : Int))] 2)
      have hnews : ∀ j u, [Value.int .i64 ((x : Int) + (y : Int))][j]? = some u → (wr.alloc (.cells #[.int .i64 ((x : Int) + (y : Int))] 2)).drew.cell? ((⟨wr.heap.size, 0, none⟩ : Addr).add j) = some u := cell_one_new _ _ _
      have hbase : w.heap.size ≤ (wr.alloc (.cells #[.int .i64 ((x : Int) + (y : Int))] 2)).drew.heap.size := by
        show _ ≤ (wr.alloc _).heap.size
        rw [World.size_alloc]; omega
      go_wp2
      have e2 : IntKind.i64.wrap ((p : Int) + 2 - 1) = (p : Int) + 1 := (IntWalk.i64_in _ (by omega)).trans (by omega)
      have e3 : IntKind.i64.wrap (p : Int) = (p : Int) := IntWalk.i64_in _ (by omega)
      have e6 : (0 : Int) ≤ (p : Int) + 1 := by omega
      have e7 : (p : Int) + 1 < (p : Int) + 2 := by omega
      have e8 : (0 : Int) ≤ (p : Int) := by omega
      have e9 : (p : Int) < (p : Int) + 2 := by omega
      have e10 : ((p : Int) + 1).toNat = p + 1 := by omega
      have X := fun (ops : Array Oper) (o : Oper) (a : Act) (K : Act → World → Prop) (Q : Exit → Act → World → Prop) (E : Prop) h1 h2 h3 h4 h6 => step_append_lies (P := Tryd.prog) (ops := ops) (o := o) (a := a) (K := K) (Q := Q) (E := E) (wr.alloc (.cells #[.int .i64 ((x : Int) + (y : Int))] 2)).drew h1 (.tmp 19) (.tmp 33) 32 h2 w.heap.size 2 i0 (.int .i64 0) 1 8 Tryd.underlying32 hi0 hz00 hz01 hz02 rfl (by omega) (.slice (some ⟨g, 0, none⟩) (p + 2) c) (p + 2) _ h3 howna ⟨wr.heap.size, 0, none⟩ 1 1 [.int .i64 ((x : Int) + (y : Int))] h4 rfl hnews (one_oneCell rfl) (by omega) (by unfold maxLen; omega) (by omega) hbase (wr.heap.size + 1) (by show (wr.alloc _).heap.size = _; rw [World.size_alloc]) h6
      go_region_law ((refine X _ _ _ _ _ _ rfl rfl rfl rfl ?_; intro g2 c2 w2 hown2 hgrow2 hat2 hlt2))
      all_goals
        rw [show (fl (p + 2)).map (Value.int .i64) ++ [.int .i64 ((x : Int) + (y : Int))] = (fl (p + 3)).map (Value.int .i64) by
          rw [HFL.out, List.map_append, HN2.out]; simp] at hown2
        have hb2 : Below w.heap.size w w2 := app_below hb hbs (.cells #[.int .i64 ((x : Int) + (y : Int))] 2) (⟨hgrow2.1, hgrow2.2, hgrow2.3, hgrow2.4, hgrow2.5⟩ : (wr.alloc (.cells #[.int .i64 ((x : Int) + (y : Int))] 2)).grownBy w2 (Value.slice (some ⟨g, 0, none⟩) (p + 2) c).ownBlock) hown (by omega)
        clear X howna hnews hbase hgrow2
        go_roundw
        case rel =>
          exact ⟨_, _, _, _, _, _, _, _, _, _, _, _, _, _, _, _, _, _, _, _, _, _, _, _, _, ⟨p + 1, by omega, hown2, hb2, HF.out, by rw [hx]; exact hle⟩, rfl⟩
        case measure =>
          show 64 - (p + 2 + 1) < 64 - (p + 2)
          omega
    · rw [fm_stop hp hle] at hfm
      have HF := Lib.hid hfm
      have HC : Hid (∀ i, i < p + 2 → wr.cell? ⟨g, i, none⟩ = some (.int .i64 (fibN i : Int))) := by
        intro i hi
        have h := hown.cellAt i (by omega)
        rw [fl_cell _ i hi] at h
        exact h
      obtain ⟨hpc, hcm⟩ := own_cap hown
      have hcm9 : c ≤ 9223372036854775807 := by unfold maxLen at hcm; omega
      have HB := Lib.hid hb
      have HBS := Lib.hid hbs
      have HPN := Lib.hid hpn
      have HLE := Lib.hid hle
      have hp1 := hc1
      have hp0 := hc0
      generalize hx : fibN (p + 1) = x at hp1 hle
      generalize hy : fibN p = y at hp0 hpn
      have hle' : ¬ (x : Int) ≤ (n : Int) := by omega
      have hlt' : (n : Int) < (x : Int) := by omega
      have hpn' : ¬ (n : Int) < (y : Int) := by omega
      clear hfm hown hc0 hc1 hb hbs hx hy hcm
      go_wp2
      go_loop [4] (fun v => v = .slice (some ⟨g, 0, none⟩) (p + 2) c ∨ v = .slice (some ⟨g, 0, none⟩) (p + 1) c) (fun v => slLen v)
      case atStart => exact .inl rfl
      case round =>
        rcases hrel with rfl | rfl
        · have q1 : (0 : Int) ≤ (p : Int) + 1 := by omega
          have q2 : (p : Int) + 1 ≤ (c : Int) := by omega
          go_wp2
          go_round
          case rel => exact .inr rfl
          case measure => simp [slLen]
        · clear hp1 hlt' hle'
          go_wp2_with fail
          have HRP := repeatB_any (p + 1) (.slice (some ⟨wr.heap.size, 0, none⟩) 1 1) (wr.alloc (.cells #[.int .u8 48] 5)) (by omega) (by omega) (SlR.own (own_48 wr))
          simp only [Int.natCast_add, Int.natCast_one] at HRP
          refine HRP.mono ?_
          clear HRP
          rintro e w3 ⟨ao, co, rfl, hO, hb3⟩
          obtain ⟨g3, rfl, hg3, hgl3⟩ := own_some hO (by omega)
          have hsz : wr.heap.size ≤ (wr.alloc (.cells #[.int .u8 48] 5)).heap.size := by rw [World.size_alloc]; omega
          have hbx : Below wr.heap.size wr w3 := ((Below.refl wr.heap.size wr).alloc (Nat.le_refl _) _).trans (hb3.mono hsz)
          replace hO := ownsRow_base hO hsz
          replace hg3 : wr.heap.size ≤ g3 := Nat.le_trans hsz hg3
          have hco := own_cap hO
          have hco9 : co ≤ 9223372036854775807 := by have := hco.2; unfold maxLen at this; omega
          rw [bm_start] at hO
          clear hb3 hsz hpn' hp0 hpn hco
          go_wp2
          go_loopw [0, 6] (fun r k wx => ∃ (j q : Nat) (l : List UInt8), j ≤ p + 1 ∧ q ≤ n ∧ r = .int .i64 q ∧ k = .int .i64 ((j : Int) - 1) ∧ wx.ownsRow wr.heap.size 5 1 (.slice (some ⟨g3, 0, none⟩) (p + 1) co) (p + 1) (bm (List.replicate j 48 ++ l)) ∧ Below wr.heap.size wr wx ∧ gr (p + 1) n = gr j q ++ l) (fun _ k _ => (intOf k + 1).toNat)
          case atStart => exact ⟨p + 1, n, [], Nat.le_refl _, Nat.le_refl _, rfl, by congr 1 <;> omega, hO, hbx, by simp⟩
          case round =>
            clear hO hbx
            obtain ⟨j, q, l, hj, hq, rfl, rfl, hO, hbx, hgr⟩ := hrel
            have HG := Lib.hid hgr
            clear hgr
            by_cases h0 : 1 ≤ j
            · obtain ⟨i, rfl⟩ : ∃ i, j = i + 1 := ⟨j - 1, by omega⟩
              have hci := (hbx.cell (p := ⟨g, i, none⟩) hgl).trans (HC.out i (by omega))
              rw [show ((i + 1 : Nat) : Int) - 1 = (i : Int) by omega]
              have hll := hO.1
              have hd1 := hO.cellAt i (by omega)
              obtain ⟨u, hu⟩ : ∃ u, (bm (List.replicate (i + 1) 48 ++ l))[i]? = some u := ⟨_, List.getElem?_eq_getElem (by omega)⟩
              rw [hu] at hd1
              have hf := hO.frozenAt i
              have HST := Lib.hid (hO.stored i (.int .u8 49))
              have HOW := Lib.hid hO
              clear hu hll
              generalize hy : fibN i = y at hci
              have HY := Lib.hid hy
              clear hy hO
              by_cases hyq : y ≤ q
              · have hyq' : (y : Int) ≤ (q : Int) := by omega
                have HR : Hid (gr (p + 1) n = gr i (q - y) ++ (49 :: l)) := by
                  show _ = _
                  rw [HG.out, gr, if_pos (by rw [HY.out]; exact hyq), HY.out]; simp
                go_wp2
                go_roundw
                case rel =>
                  have h2 := HST.out.1
                  rw [bm_set] at h2
                  exact ⟨i, q - y, 49 :: l, by omega, by omega, by congr 1; omega, rfl, h2, hbx.setCell (p := ⟨g3, i, none⟩) hg3 _, HR.out⟩
                case measure => simp [intOf]
              · have hyq' : ¬ (y : Int) ≤ (q : Int) := by omega
                have HR : Hid (gr (p + 1) n = gr i q ++ (48 :: l)) := by
                  show _ = _
                  rw [HG.out, gr, if_neg (by rw [HY.out]; exact hyq)]; simp
                go_wp2
                go_roundw
                case rel =>
                  have h2 := HOW.out
                  rw [rep_shift] at h2
                  exact ⟨i, q, 48 :: l, by omega, hq, rfl, rfl, h2, hbx, HR.out⟩
                case measure => simp [intOf]
            · obtain rfl : j = 0 := by omega
              have hl : l.length = p + 1 := by have := hO.1; simpa [bm] using this
              have HR : Hid (fibT n = l ++ [49]) := by
                show _ = _
                rw [fibT, ← HF.out, HG.out]; simp [gr]
              have hconv : (convert 22 9 (.slice (some ⟨g3, 0, none⟩) (p + 1) co)).run Tryd.prog wr = .ok (.string ⟨l.toArray⟩) wr := by
                have h := run_convert_bytes_back (P := Tryd.prog) wr 22 9 5 ⟨g3, 0, none⟩ co l Tryd.underlying22 Tryd.underlying5 Tryd.underlying9 (fun j hj => by
                  rw [Addr.add_lit, Nat.zero_add, hO.cellAt j (by omega), List.replicate_zero, List.nil_append, bm, List.getElem?_map, List.getElem?_eq_getElem hj]
                  rfl)
                rw [hl] at h
                exact h
              clear hO
              go_wp2
              go_ret2
              exact ⟨ret_str2 HR.out.symm, HB.out.trans (hbx.mono HBS.out)⟩

end Go.Proofs.YtjobgobeiiakgaaDoor
