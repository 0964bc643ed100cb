/- Fibonacci numbers as texts: slices.Repeat of one byte. -/
import Derived.Test.YtcgenmkgdhaejaaDoorGam
import Derived.Laws.CopyOwn
import Derived.Deep.RegionHeld3
import Derived.IntWalk
namespace Go.Proofs.YtcgenmkgdhaejaaDoor
set_option linter.unusedSimpArgs false
set_option linter.unusedVariables false
open Go.RowKit

theorem stepCopyPos {P : Program} {ops : Array Oper} {o : Oper} {a : Act} {w : World} {K : Act → World → Prop} {Q : Exit → Act → World → Prop} {E : Prop} (hgd : o.guard = none) (d s : Operand) (dT sT : TypeId)
    (ho : o.op = .call { callee := .builtin .copy, args := #[d, s], argTypes := #[dT, sT] }) (elem : TypeId) (hu : P.underlying dT = some (.slice elem)) (hsz : (P.info? elem).map (·.size) = some 1)
    (dp sp : Option Addr) (dLen dCap sLen sCap : Nat) (hd : a.eval d = .slice dp dLen dCap) (hs : a.eval s = .slice sp sLen sCap)
    (g off : Nat) (cur : List Value) (t : TypeId) (hg : w.heap[g]? = some (.cells cur.toArray t (0, 0))) (cs : List Value) (hn : cs.length = Nat.min sLen dLen)
    (hdp : dp = some ⟨g, off, none⟩) (ad : Addr) (hsp : sp = some ad) (hsrc : ∀ j v, cs[j]? = some v → w.cell? (ad.add j) = some v)
    (hfit : off + cs.length ≤ cur.length) (h1 : ∀ v ∈ cs, v.oneCell' = true)
    (h : K (a.put o.dst (goInt cs.length)) (w.setRow g (splice cur off cs).toArray)) :
    if Region.wanted o (yielded ops a.tmps) = true then Oper.wp P o a w K Q else E := by
  have hw : Region.wanted o (yielded ops a.tmps) = true := by simp [Region.wanted, hgd]
  rw [if_pos hw]
  subst hdp hsp
  have hrun := run_copy_row (P := P) w dT sT o.type elem g off dLen dCap ad sLen sCap cur.toArray t cs hu hsz hg hn hsrc (by simpa using hfit) h1
  unfold Oper.wp
  simp [execOp, ho, resolve, invoke, builtin, hd, hs, hrun, Result.andThen]
  exact h

/-- k bytes '0', and then 0. -/
def zs (m k : Nat) : List Value := List.replicate k (.int .u8 48) ++ List.replicate (m - k) (.int .u8 0)
theorem zs_length (m k : Nat) (h : k ≤ m) : (zs m k).length = m := by simp [zs]; omega
theorem zs_full (m : Nat) : zs m m = List.replicate m (.int .u8 48) := by simp [zs]
theorem zs_get (m k j : Nat) (h : j < k) : (zs m k)[j]? = some (.int .u8 48) := by
  unfold zs
  rw [List.getElem?_append_left (by simpa using h), List.getElem?_replicate, if_pos h]
theorem zs_splice (m k t : Nat) (h : k + t ≤ m) : splice (zs m k) k (List.replicate t (.int .u8 48)) = zs m (k + t) := by
  have hl : (List.replicate k (Value.int .u8 48)).length = k := List.length_replicate
  unfold splice zs
  rw [List.take_left' hl, List.length_replicate, List.drop_append, hl, List.drop_of_length_le (by rw [hl]; omega), List.nil_append, List.drop_replicate, ← List.append_assoc, List.replicate_append_replicate]
  congr 2
  omega
theorem reps_one (m : Nat) (x : Int) : ∀ v ∈ List.replicate m (Value.int .u8 x), v.oneCell' = true := by
  intro v hv
  rw [List.mem_replicate] at hv
  rw [hv.2]; rfl

theorem info_byte : (Tryd.prog.info? 5).map (fun i => (i.zero, i.size, i.bytes)) = some (some (.int .u8 0), 1, 1) := by kernel_rfl

set_option maxRecDepth 100000 in
set_option maxHeartbeats 1000000 in
theorem repeatB_any (m : Nat) (v : Value) (w : World) (h1 : 1 ≤ m) (hm : m ≤ 64) (hv : SlR w v [.int .u8 48]) :
    Calls Tryd.prog 76 #[v, .int .i64 m] w (RetSl w 5 m (List.replicate m (.int .u8 48)) id) := by
  obtain ⟨i0, hi, hz0, hz1, hz2⟩ := info_parts info_byte
  obtain ⟨a, n, c, rfl, hnl, hnc, hcm, hcell⟩ := SlR.opened (f := Value.int .u8) (l := [48]) 0 hv
  have hn1 : n = 1 := by simpa using hnl.symm
  subst hn1
  obtain ⟨b, off, rfl, hc, hbl⟩ := hcell 0 (by omega)
  have hc : w.cell? ⟨b, off, none⟩ = some (.int .u8 48) := hc
  have hsz : (Tryd.prog.info? 5).map (·.size) = some 1 := by kernel_rfl
  have HS := Lib.hid hsz
  have HML : Hid (∀ w, Calls Tryd.prog 86 #[.int .u64 1, .int .u64 m] w fun e w' => e = .returned (.tuple #[.int .u64 0, .int .u64 m]) ∧ w = w') := by
    show ∀ w, _
    intro w
    have h := Tryd.bits_Mul 1 m (by omega) (by omega) w
    have e1 : 1 * m / 18446744073709551616 = 0 := by omega
    have e2 : 1 * m % 18446744073709551616 = m := by omega
    rw [e1, e2] at h
    exact h.mono fun e w' hh => ⟨hh.1, hh.2.symm⟩
  clear hcell hnl hsz
  unfold maxLen at hcm
  go_enter Tryd.func76, Tryd.ntmps76
  go_wp2_with (first | (go_at_call 86; refine (HML.out _).mono ?_; rintro e w' ⟨rfl, rfl⟩) | (at_make; refine wpList_make_full _ rfl _ _ 37 rfl w.heap.size 5 i0 (.int .u8 0) 1 Tryd.underlying37 hi hz0 hz1 .i64 .i64 _ _ m rfl rfl rfl rfl (by rw [hz2]; omega) (by unfold maxLen; omega) (Nat.le_refl _) ?_; intro w1 hown hgr))
  have hb1 : Below w.heap.size w w1 := (Below.refl _ _).grown hgr (Nat.le_refl _) (by simp)
  rw [Nat.mul_one, show (Value.cells (.int .u8 0)) = #[.int .u8 0] from rfl, toList_madeCells_one] at hown
  obtain ⟨hlen, hcase⟩ := hown
  rcases hcase with ⟨h, _⟩ | ⟨g', cap, cur, hv', hBg, hg, hnc', hcm', hcs, htake⟩
  · simp at h
  simp only [Value.slice.injEq, Option.some.injEq, Addr.mk.injEq, and_true, true_and] at hv'
  obtain ⟨rfl, rfl⟩ := hv'
  have hcur : cur = (zs m 0).toArray := by
    rw [Nat.mul_one] at hcs htake
    rw [List.take_of_length_le (by simp; omega)] at htake
    rw [← Array.toArray_toList (xs := cur), htake]
    simp [zs]
  subst hcur
  have hcp := run_copy_row (P := Tryd.prog) w1 37 37 3 5 w.heap.size 0 m m ⟨b, off, none⟩ 1 c (zs m 0).toArray 5 [.int .u8 48] Tryd.underlying37 HS.out hg (by show 1 = min 1 m; omega) (fun j v hj => by
    have hj0 : j = 0 := by
      have := (List.getElem?_eq_some_iff.1 hj).1
      simpa using this
    subst hj0
    rw [Addr.add_lit, Nat.add_zero]
    rw [show w1.cell? ⟨b, off, none⟩ = w.cell? ⟨b, off, none⟩ from hb1.cell (p := ⟨b, off, none⟩) hbl, hc]
    simpa using hj) (by simp [zs]; omega) (reps_one 1 48)
  rw [show (((zs m 0).toArray.toList.take 0 ++ [Value.int .u8 48] ++ (zs m 0).toArray.toList.drop (0 + [Value.int .u8 48].length)).toArray) = (zs m 1).toArray by
    have h := zs_splice m 0 1 (by omega)
    simp only [splice, List.replicate_one, Nat.zero_add] at h
    simp only [List.append_assoc, Nat.zero_add]
    exact congrArg List.toArray h] at hcp
  have hg2 := setRow_heap w1 w.heap.size _ (zs m 1).toArray 5 (0, 0) hg
  have hb2 := below_setRow hb1 (Nat.le_refl _) (zs m 1).toArray
  generalize w1.setRow w.heap.size (zs m 1).toArray = w2 at *
  rw [hcp]
  clear hg hcp hb1 hgr
  go_wp2
  go_loopw [8] (fun i wr => ∃ k : Nat, 1 ≤ k ∧ k ≤ m ∧ i = .int .i64 k ∧ wr.heap[w.heap.size]? = some (.cells (zs m k).toArray 5 (0, 0)) ∧ Below w.heap.size w wr) (fun i _ => m - (intOf i).toNat)
  case atStart => exact ⟨1, Nat.le_refl _, h1, rfl, hg2, hb2⟩
  case round =>
    clear hg2 hb2
    obtain ⟨k, hk1, hk, rfl, hg, hb⟩ := hrel
    by_cases hlt : k < m
    · obtain ⟨t, ht⟩ : ∃ t, t = Nat.min k (m - k) := ⟨_, rfl⟩
      have ht1 : 1 ≤ t ∧ k + t ≤ m ∧ t ≤ k := by
        have : Nat.min k (m - k) = min k (m - k) := rfl
        omega
      have HGd : Hid (wr.drew.heap[w.heap.size]? = some (.cells (zs m k).toArray 5 (0, 0))) := hg
      have HN : Hid ((List.replicate t (Value.int .u8 48)).length = Nat.min k (m - k)) := by show _ = _; rw [List.length_replicate, ht]
      have HSR : Hid (∀ j v, (List.replicate t (Value.int .u8 48))[j]? = some v → wr.drew.cell? ((⟨w.heap.size, 0, none⟩ : Addr).add j) = some v) := by
        intro j v hj
        have hjt : j < t := by
          have := (List.getElem?_eq_some_iff.1 hj).1
          simpa using this
        rw [List.getElem?_replicate, if_pos hjt] at hj
        rw [Addr.add_lit, Nat.zero_add]
        show wr.cell? ⟨w.heap.size, j, none⟩ = some v
        rw [cell_of_row wr w.heap.size j _ 5 (0, 0) hg]
        rw [List.getElem?_toArray, zs_get m k j (by omega)]
        exact hj
      have HFT : Hid (k + (List.replicate t (Value.int .u8 48)).length ≤ (zs m k).length) := by
        show _ ≤ _
        rw [zs_length m k hk, List.length_replicate]; omega
      have H1 := Lib.hid (reps_one t 48)
      have HE : Hid ((splice (zs m k) k (List.replicate t (.int .u8 48))).toArray = (zs m (k + t)).toArray) := congrArg List.toArray (zs_splice m k t ht1.2.1)
      have HNH := Lib.hid (setRow_heap wr.drew w.heap.size _ (zs m (k + t)).toArray 5 (0, 0) HGd.out)
      have HNB := Lib.hid (below_setRow hb.drew (Nat.le_refl _) (zs m (k + t)).toArray)
      obtain ⟨q1, q2, q3⟩ := ht1
      have e1 : (0 : Int) ≤ (k : Int) := by omega
      have e2 : (k : Int) ≤ (m : Int) := by omega
      have e3 : ¬ m = k := by omega
      have e4 : ¬ k = m := by omega
      have e5 : IntKind.i64.wrap ((k : Int) + (t : Int)) = (k : Int) + (t : Int) := IntWalk.i64_in _ (by omega)
      clear hg hb ht
      go_wp2
      go_region_held3 (fun _ => True) (trivial) (refine stepCopyPos rfl (.tmp 41) (.tmp 44) 37 37 rfl 5 Tryd.underlying37 HS.out (some ⟨w.heap.size, k, none⟩) (some ⟨w.heap.size, 0, none⟩) (m - k) (m - k) k m rfl rfl w.heap.size k (zs m k) 5 HGd.out (List.replicate t (.int .u8 48)) HN.out rfl ⟨w.heap.size, 0, none⟩ rfl HSR.out HFT.out H1.out ?_)
      rw [HE.out]
      have hNH := HNH.out
      have hNB := HNB.out
      generalize wr.drew.setRow w.heap.size (zs m (k + t)).toArray = w3 at *
      simp only [goInt, List.length_replicate]
      go_roundw
      case rel =>
        refine ⟨_, _, _, _, _, _, _, _, _, _, _, _, _, _, ⟨k + t, by omega, q2, ?_, hNH, hNB⟩, rfl⟩
        go_num
      case measure => simp [intOf]; omega
    · obtain rfl : m = k := by omega
      go_wp2
      go_ret
      exact ⟨some ⟨w.heap.size, 0, none⟩, m, rfl, ⟨by simp, .inr ⟨w.heap.size, m, _, rfl, Nat.le_refl _, hg, Nat.le_refl _, by unfold maxLen; omega, by simp [zs], by simp [zs]⟩⟩, hb⟩

end Go.Proofs.YtcgenmkgdhaejaaDoor
