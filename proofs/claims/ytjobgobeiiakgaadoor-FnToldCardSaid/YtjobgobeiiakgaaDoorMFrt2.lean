/- Fronts: lists of counting numbers, a number moved to the front. -/
import Derived.Test.YtjobgobeiiakgaaDoorMCtr2
import Derived.IntWalk
import Derived.Laws.CopyOwn
import Derived.Deep.RegionHeld3
namespace Go.Proofs.YtjobgobeiiakgaaDoor
set_option linter.unusedSimpArgs false
set_option linter.unusedVariables false
open Go.RowKit

/-- The numbers 0, 1, .. -/
def cnt (n : Nat) : List Int := (List.range n).map (fun i : Nat => (i : Int))
theorem cnt_succ (n : Nat) : cnt (n + 1) = cnt n ++ [(n : Int)] := by simp [cnt, List.range_succ]
theorem cnt_length (n : Nat) : (cnt n).length = n := by simp [cnt]

set_option maxHeartbeats 1000000 in
theorem counting_any (n : Nat) (w : World) (hn : n ≤ 1024) :
    Calls Tryd.prog 47 #[.int .i64 n] w (RetSl w 2 n ((cnt n).map (Value.int .i64)) id) := by
  obtain ⟨i0, hi0, hz00, hz01, hz02⟩ := info_parts info_Int64S
  go_enter Tryd.func47, Tryd.ntmps47
  go_wp2
  have hown0 : (w.alloc (.cells #[] 2)).ownsRow w.heap.size 2 1 (.slice (some ⟨w.heap.size, 0, none⟩) 0 0) 0 [] := World.ownsRow_made w #[] 0 (Nat.le_refl _) (Nat.zero_le _) rfl
  have hb0 : Below w.heap.size w (w.alloc (.cells #[] 2)) := by go_grown
  go_loopw [3, 7] (fun v i wr => ∃ k : Nat, k ≤ n ∧ i = .int .i64 k ∧ wr.ownsRow w.heap.size 2 1 v k ((cnt k).map (Value.int .i64)) ∧ Below w.heap.size w wr) (fun _ i _ => n - (intOf i).toNat)
  case atStart => exact ⟨0, Nat.zero_le _, rfl, hown0, hb0⟩
  case round =>
    clear hown0 hb0
    obtain ⟨k, hk, rfl, hown, hb⟩ := hrel
    have hbs := hb.size
    by_cases hlt : k < n
    · go_wp2_with (at_builtin; refine wpList_append_own _ rfl _ _ 32 rfl w.heap.size 2 i0 (.int .i64 0) 1 8 Tryd.underlying32 hi0 hz00 hz01 hz02 rfl (by decide) u3 _ _ rfl (hown.alloc _) ⟨(World.heap wr).size, 0, none⟩ 1 1 [.int .i64 k] rfl rfl (cell_one_new _ _ _) (one_oneCell rfl) (by unfold maxLen; omega) (by omega) (by simp only [World.size_alloc]; have := hb.size; omega) ?_; intro v1 w1 hown1 hgx _; have hb1 := app_below hb (by have := hb.size; omega) _ hgx hown (by omega))
      rw [show (cnt k).map (Value.int .i64) ++ [.int .i64 k] = (cnt (k + 1)).map (Value.int .i64) by simp [cnt_succ]] at hown1
      go_roundw
      case rel => exact ⟨k + 1, by omega, by go_num, hown1, hb1⟩
      case measure => simp [intOf]; omega
    · obtain rfl : n = k := by omega
      go_wp2
      go_ret
      exact RetSl.of (f := id) hown hb

theorem step_copy_pos {P : Program} {ops : Array Oper} {o : Oper} {a : Act} {w : World} {K : Act → World → Prop} {Q : Exit → Act → World → Prop} {E : Prop} (hgd : o.guard = none) (d s : Operand) (dT sT : TypeId)
    (ho : o.op = .call { callee := .builtin .copy, args := #[d, s], argTypes := #[dT, sT] }) (elem : TypeId) (hu : P.underlying dT = some (.slice elem)) (hsz : (P.info? elem).map (·.size) = some 1)
    (dp sp : Option Addr) (dLen dCap sLen sCap : Nat) (hd : a.eval d = .slice dp dLen dCap) (hs : a.eval s = .slice sp sLen sCap)
    (g off : Nat) (cur : List Value) (t : TypeId) (hg : w.heap[g]? = some (.cells cur.toArray t (0, 0))) (cs : List Value) (hn : cs.length = Nat.min sLen dLen)
    (hdp : dp = some ⟨g, off, none⟩) (ad : Addr) (hsp : sp = some ad) (hsrc : ∀ j v, cs[j]? = some v → w.cell? (ad.add j) = some v)
    (hfit : off + cs.length ≤ cur.length) (h1 : ∀ v ∈ cs, v.oneCell' = true)
    (h : K (a.put o.dst (goInt cs.length)) (w.setRow g (splice cur off cs).toArray)) :
    if Region.wanted o (yielded ops a.tmps) = true then Oper.wp P o a w K Q else E := by
  have hw : Region.wanted o (yielded ops a.tmps) = true := by simp [Region.wanted, hgd]
  rw [if_pos hw]
  subst hdp hsp
  have hrun := run_copy_row (P := P) w dT sT o.type elem g off dLen dCap ad sLen sCap cur.toArray t cs hu hsz hg hn hsrc (by simpa using hfit) h1
  unfold Oper.wp
  simp [execOp, ho, resolve, invoke, builtin, hd, hs, hrun, Result.andThen]
  exact h

theorem step_copy_zero {P : Program} {ops : Array Oper} {o : Oper} {a : Act} {w : World} {K : Act → World → Prop} {Q : Exit → Act → World → Prop} {E : Prop} (hgd : o.guard = none) (d s : Operand) (dT sT : TypeId)
    (ho : o.op = .call { callee := .builtin .copy, args := #[d, s], argTypes := #[dT, sT] }) (elem : TypeId) (hu : P.underlying dT = some (.slice elem)) (hsz : (P.info? elem).map (·.size) = some 1)
    (dp sp : Option Addr) (dLen dCap sLen sCap : Nat) (hd : a.eval d = .slice dp dLen dCap) (hs : a.eval s = .slice sp sLen sCap) (hn : Nat.min sLen dLen = 0)
    (h : K (a.put o.dst (goInt 0)) w) :
    if Region.wanted o (yielded ops a.tmps) = true then Oper.wp P o a w K Q else E := by
  have hw : Region.wanted o (yielded ops a.tmps) = true := by simp [Region.wanted, hgd]
  rw [if_pos hw]
  have hrun := run_copy_none (P := P) w dT sT o.type elem dp sp dLen dCap sLen sCap hu hsz hn
  unfold Oper.wp
  simp [execOp, ho, resolve, invoke, builtin, hd, hs, hrun, Result.andThen]
  exact h

/-- The number at a place, moved to the front. -/
def mtf (xs : List Int) (k : Nat) : List Int := xs[k]?.getD 0 :: (xs.take k ++ xs.drop (k + 1))

theorem mtf_length (xs : List Int) (k : Nat) (h : k < xs.length) : (mtf xs k).length = xs.length := by
  simp [mtf]; omega
theorem mtf_splice (f : Int → Value) (xs : List Int) (cur : List Value) (n k : Nat) (hx : xs.length = n) (hk : k < n) (hc : cur.take n = xs.map f) :
    ((splice cur 1 ((xs.take k).map f)).take n).set 0 (f (xs[k]?.getD 0)) = (mtf xs k).map f := by
  obtain ⟨rest, hr⟩ : ∃ rest, cur = xs.map f ++ rest := ⟨cur.drop n, by rw [← hc, List.take_append_drop]⟩
  subst hr hx
  cases xs with
  | nil => simp at hk
  | cons x t =>
    have h1 : ((t.map f ++ rest).drop ((x :: t).take k).length) = (t.drop k).map f ++ rest := by
      have : ((x :: t).take k).length = k := by simp at hk ⊢; omega
      rw [this, List.drop_append_of_le_length (by simp at hk ⊢; omega), List.map_drop]
    have h2 : splice ((x :: t).map f ++ rest) 1 (((x :: t).take k).map f) = f x :: (((x :: t).take k).map f ++ ((t.drop k).map f ++ rest)) := by
      unfold splice
      rw [List.length_map, show 1 + ((x :: t).take k).length = ((x :: t).take k).length + 1 by omega]
      simp only [List.map_cons, List.cons_append, List.take_succ_cons, List.take_zero, List.drop_succ_cons]
      rw [h1]; rfl
    rw [h2, ← List.cons_append, ← List.append_assoc]
    rw [List.take_append_of_le_length (by simp at hk ⊢; omega), List.take_of_length_le (by simp at hk ⊢; omega)]
    simp [mtf]

set_option maxHeartbeats 1000000 in
theorem toFront_any (g n c k : Nat) (xs : List Int) (B : Nat) (w : World) (hk : k < n) (hn : n ≤ 1024) (hown : w.ownsRow B 2 1 (.slice (some ⟨g, 0, none⟩) n c) n (xs.map (Value.int .i64))) :
    Calls Tryd.prog 49 #[.slice (some ⟨g, 0, none⟩) n c, .int .i64 k] w fun e w' => e = .returned (.int .i64 (xs[k]?.getD 0)) ∧ w'.ownsRow B 2 1 (.slice (some ⟨g, 0, none⟩) n c) n ((mtf xs k).map (Value.int .i64)) ∧ w.grownBy w' (some g) := by
  have hxl : xs.length = n := by have := hown.1; simpa using this
  have hd := hown.cellAt k (by omega)
  have hf := hown.frozenAt 0
  rw [show (xs.map (Value.int .i64))[k]? = some (Value.int .i64 (xs[k]?.getD 0)) by rw [List.getElem?_map, List.getElem?_eq_getElem (by omega)]; rfl] at hd
  have hsz : (Tryd.prog.info? 2).map (·.size) = some 1 := by kernel_rfl
  obtain ⟨hlen, hcase⟩ := hown
  rcases hcase with ⟨h, _⟩ | ⟨g', cap, cur, hv, hBg, hg, hnc, hcm, hcs, htake⟩
  · simp at h
  simp only [Value.slice.injEq, Option.some.injEq, Addr.mk.injEq, and_true, true_and] at hv
  obtain ⟨rfl, rfl⟩ := hv
  have hc9 : c ≤ 9223372036854775807 := by unfold maxLen at hcm; omega
  have HX := Lib.hid hxl
  have HT := Lib.hid htake
  have HG := Lib.hid hg
  have HS := Lib.hid hsz
  generalize hz : xs[k]?.getD 0 = z at *
  have HZ := Lib.hid hz
  clear hz hxl htake hg hsz hlen
  have e1 : IntKind.i64.wrap ((k : Int) + 1) = (k : Int) + 1 := IntWalk.i64_in _ (by omega)
  have e3 : (0 : Int) ≤ (k : Int) + 1 := by omega
  have e4 : (k : Int) + 1 ≤ (c : Int) := by omega
  have e5 : (1 : Int) ≤ (k : Int) + 1 := by omega
  have e6 : (k : Int) ≤ (c : Int) := by omega
  have e7 : (0 : Int) ≤ (k : Int) := by omega
  have e2 : ((k : Int) + 1).toNat = k + 1 := by omega
  by_cases h0 : 1 ≤ k
  · have hc1 : ¬ c = 1 := by omega
    have HGd : Hid (w.drew.heap[g]? = some (.cells cur.toList.toArray 2 (0, 0))) := by
      have h : w.heap[g]? = some (.cells cur.toList.toArray 2 (0, 0)) := by simpa using HG.out
      exact h
    have hcl : cur.toList.length = c := by simpa using hcs
    have hmm : Nat.min k k = k := Nat.min_self k
    have HL : Hid (((xs.take k).map (Value.int .i64)).length = Nat.min k k) := by
      show ((xs.take k).map (Value.int .i64)).length = Nat.min k k
      rw [List.length_map, List.length_take, HX.out, hmm, Nat.min_eq_left (by omega)]
    have HSR : Hid (∀ j v, ((xs.take k).map (Value.int .i64))[j]? = some v → w.drew.cell? ((⟨g, 0, none⟩ : Addr).add j) = some v) := by
      intro j v hj
      rw [Addr.add_lit, Nat.zero_add]
      show w.cell? ⟨g, j, none⟩ = some v
      rw [cell_of_row w g j cur 2 (0, 0) HG.out]
      have hjk : j < k := by
        have := (List.getElem?_eq_some_iff.1 hj).1
        simp at this; omega
      have ht := HT.out
      rw [Nat.mul_one] at ht
      have h2 : (cur.toList.take n)[j]? = some v := by
        rw [ht, List.getElem?_map]
        rw [List.getElem?_map, List.getElem?_take, if_pos hjk] at hj
        exact hj
      rw [List.getElem?_take, if_pos (by omega)] at h2
      simpa using h2
    have HFT : Hid (1 + ((xs.take k).map (Value.int .i64)).length ≤ cur.toList.length) := by
      show _ ≤ _
      rw [HL.out, hcl, hmm]; omega
    have H1 : Hid (∀ v ∈ (xs.take k).map (Value.int .i64), v.oneCell' = true) := ints_oneCell .i64 _
    go_enter Tryd.func49, Tryd.ntmps49
    go_wp2
    clear hcl hmm
    go_region_held3 (fun _ => True) (trivial) (refine step_copy_pos rfl (.tmp 13) (.tmp 16) 32 32 rfl 2 Tryd.underlying32 HS.out (some ⟨g, 1, none⟩) (some ⟨g, 0, none⟩) k (c - 1) k c rfl rfl g 1 cur.toList 2 HGd.out ((xs.take k).map (Value.int .i64)) HL.out rfl ⟨g, 0, none⟩ rfl HSR.out HFT.out H1.out ?_)
    obtain ⟨L, hL⟩ : ∃ L, L = splice cur.toList 1 ((xs.take k).map (Value.int .i64)) := ⟨_, rfl⟩
    have hLl : L.length = c := by rw [hL, length_splice _ _ _ HFT.out]; simpa using hcs
    have hh := setRow_heap w.drew g cur L.toArray 2 (0, 0) (show w.drew.heap[g]? = _ from HG.out)
    have hoth : w.grownBy (w.drew.setRow g L.toArray) (some g) := ⟨rfl, rfl, rfl, by simp [World.setRow], fun i _ hi => setRow_other w.drew g i _ (fun e => hi (by rw [e]))⟩
    rw [← hL]
    have hown1 : (w.drew.setRow g L.toArray).ownsRow B 2 1 (.slice (some ⟨g, 0, none⟩) n c) n (L.take n) :=
      ⟨by simp; omega, .inr ⟨g, c, L.toArray, rfl, hBg, hh, hnc, hcm, by simpa using hLl, by simp⟩⟩
    generalize w.drew.setRow g L.toArray = W1 at *
    have hd1 := hown1.cellAt 0 (by omega)
    obtain ⟨u, hu⟩ : ∃ u, (L.take n)[0]? = some u := ⟨_, List.getElem?_eq_getElem (by simp; omega)⟩
    rw [hu] at hd1
    have hf1 := hown1.frozenAt 0
    have HST := Lib.hid (hown1.stored 0 (.int .i64 z))
    have HLL := Lib.hid hL
    clear hL hu hh HGd HL HSR HFT H1 hcs hd hf
    go_wp2
    go_ret
    refine ⟨rfl, ?_, grownBy_trans hoth HST.out.2⟩
    have h2 := HST.out.1
    rw [HLL.out, ← HZ.out, mtf_splice _ xs _ n k HX.out hk (by have := HT.out; rwa [Nat.mul_one] at this)] at h2
    rw [← HZ.out]
    exact h2
  · have hmm : Nat.min k k = 0 := (Nat.min_self k).trans (by omega)
    have HM := Lib.hid hmm
    have hh : w.heap[g]? = some (.cells cur 2 (0, 0)) := HG.out
    have hown1 : w.drew.ownsRow B 2 1 (.slice (some ⟨g, 0, none⟩) n c) n (xs.map (Value.int .i64)) :=
      ⟨by simp [HX.out], .inr ⟨g, c, cur, rfl, hBg, hh, hnc, hcm, hcs, HT.out⟩⟩
    have hd1 := hown1.cellAt 0 (by omega)
    obtain ⟨u, hu⟩ : ∃ u, (xs.map (Value.int .i64))[0]? = some u := ⟨_, List.getElem?_eq_getElem (by have := HX.out; simp; omega)⟩
    rw [hu] at hd1
    have hf1 := hown1.frozenAt 0
    have HST := Lib.hid (hown1.stored 0 (.int .i64 z))
    have hg1 : w.grownBy w.drew (some g) := ⟨rfl, rfl, rfl, Nat.le_refl _, fun _ _ _ => rfl⟩
    have HE : Hid ((xs.map (Value.int .i64)).set 0 (.int .i64 z) = (mtf xs k).map (Value.int .i64)) := by
      have hk0 : k = 0 := by omega
      have hz := HZ.out
      have hx := HX.out
      subst hk0 hz
      cases xs with
      | nil => simp at hx; omega
      | cons x t => show (_ : List Value) = _; simp [mtf]
    clear hh hu hmm hcs
    by_cases hc1 : c = 1
    · have HC := Lib.hid hc1
      have hcx : (c = 1) = True := by simp [hc1]
      clear hc1
      go_enter Tryd.func49, Tryd.ntmps49
      go_wp2
      go_region_held3 (fun _ => True) (trivial) (refine step_copy_zero rfl (.tmp 13) (.tmp 16) 32 32 rfl 2 Tryd.underlying32 HS.out (some ⟨g, 0, none⟩) (some ⟨g, 0, none⟩) k (c - 1) k c rfl rfl HM.out ?_)
      go_wp2
      go_ret
      refine ⟨rfl, ?_, grownBy_trans hg1 HST.out.2⟩
      have h2 := HST.out.1
      rw [HE.out] at h2
      exact h2
    · go_enter Tryd.func49, Tryd.ntmps49
      go_wp2
      go_region_held3 (fun _ => True) (trivial) (refine step_copy_zero rfl (.tmp 13) (.tmp 16) 32 32 rfl 2 Tryd.underlying32 HS.out (some ⟨g, 1, none⟩) (some ⟨g, 0, none⟩) k (c - 1) k c rfl rfl HM.out ?_)
      go_wp2
      go_ret
      refine ⟨rfl, ?_, grownBy_trans hg1 HST.out.2⟩
      have h2 := HST.out.1
      rw [HE.out] at h2
      exact h2

end Go.Proofs.YtjobgobeiiakgaaDoor

/- Fronts: the contracts of FrontOf and BackOfFront, on both sides. -/
namespace Go.Proofs.YtjobgobeiiakgaaDoor
set_option linter.unusedSimpArgs false
set_option linter.unusedVariables false
open Go.RowKit

/-- A list has letters, or places, below n. -/
def frOk (xs : List Int) (n : Int) : Bool := inB n 1 16 && decide (xs.length ≤ 512) && xs.all (fun x => inB x 0 (n - 1))
theorem frOk_parts {xs : List Int} {n : Int} (h : frOk xs n = true) : (1 ≤ n ∧ n ≤ 16) ∧ xs.length ≤ 512 ∧ xs.all (fun x => inB x 0 (n - 1)) = true := by
  unfold frOk at h
  simp only [Bool.and_eq_true, decide_eq_true_eq] at h
  exact ⟨inB_true h.1.1, h.1.2, h.2⟩

set_option maxHeartbeats 1000000 in
theorem areFront_any (v : Value) (xs : List Int) (m : Int) (w : World) (hv : SlR w v (xs.map (Value.int .i64))) :
    Calls Tryd.prog 46 #[v, .int .i64 m] w fun e w' => e = .returned (.bool (frOk xs m)) ∧ w = w' := by
  obtain ⟨a, n, c, rfl, hnl, hnc, hcm, hcell⟩ := SlR.opened 0 hv
  unfold maxLen at hcm
  have hn9 : n ≤ 9223372036854775807 := by omega
  have HV : Hid (frOk xs m = (inB m 1 16 && decide (n ≤ 512) && xs.all (fun x => inB x 0 (m - 1)))) := by
    subst hnl; exact rfl
  clear hnl hcell hcm hnc
  generalize hm : inB m 1 16 = tm at HV
  have HM := Lib.hid hm
  cases tm
  · clear hm
    go_enter Tryd.func46, Tryd.ntmps46
    go_wp2_with (go_at_call 30; refine (within_any _ _ _ _).mono ?_; rw [HM.out]; rintro e w' ⟨rfl, rfl⟩)
    go_ret
    exact ⟨ret_bool (by rw [HV.out]; rfl), rfl⟩
  · have hm2 := inB_true hm
    clear hm
    by_cases h2 : n ≤ 512
    · generalize ht : xs.all (fun x => inB x 0 (m - 1)) = t at HV
      have HT := Lib.hid ht
      clear ht
      go_enter Tryd.func46, Tryd.ntmps46
      go_wp2_with (first | (go_at_call 30; refine (within_any _ _ _ _).mono ?_; rw [HM.out]; rintro e w' ⟨rfl, rfl⟩) | (go_at_call 42; refine (areWithin_any _ xs 0 (m - 1) _ hv).mono ?_; rw [HT.out]; rintro e w' ⟨rfl, rfl⟩))
      go_ret
      exact ⟨ret_bool (by rw [HV.out]; simp [h2]), rfl⟩
    · have h2' : ¬ ((n : Int) ≤ 512) := by omega
      go_enter Tryd.func46, Tryd.ntmps46
      go_wp2_with (go_at_call 30; refine (within_any _ _ _ _).mono ?_; rw [HM.out]; rintro e w' ⟨rfl, rfl⟩)
      go_ret
      exact ⟨ret_bool (by rw [HV.out]; simp; intro _; omega), rfl⟩

/-- The list and the letters that are told, behind k places. -/
def bkSt (ps : List Int) (n : Nat) : Nat → List Int × List Int
  | 0 => (cnt n, [])
  | k + 1 => (mtf (bkSt ps n k).1 (ps[k]?.getD 0).toNat, (bkSt ps n k).2 ++ [(bkSt ps n k).1[(ps[k]?.getD 0).toNat]?.getD 0])
def out_BackOfFront (ps : List Int) (n : Int) : List Int × Bool := if frOk ps n then ((bkSt ps n.toNat ps.length).2, true) else ([], false)
theorem bkSt_len1 (ps : List Int) (n : Nat) (h : ps.all (fun x => inB x 0 ((n : Int) - 1)) = true) : ∀ k, k ≤ ps.length → (bkSt ps n k).1.length = n
  | 0, _ => cnt_length n
  | k + 1, hk => by
    obtain ⟨h1, h2⟩ := inB_get h (k := k) (by omega)
    have ih := bkSt_len1 ps n h k (by omega)
    rw [bkSt, mtf_length _ _ (by omega), ih]
theorem bkSt_len2 (ps : List Int) (n : Nat) : ∀ k, (bkSt ps n k).2.length = k
  | 0 => rfl
  | k + 1 => by rw [bkSt, List.length_append, bkSt_len2 ps n k]; rfl

set_option maxHeartbeats 400000 in
theorem impl_BackOfFront (w : World) (v : Value) (ps : List Int) (hv : SlR w v (ps.map (Value.int .i64))) (_ : ∀ x ∈ ps, I64 x) (_ : ps.length ≤ 1048576) (m : Int) (_ : I64 m) :
    Calls Tryd.prog 22 #[v, .int .i64 m] w (RetSl w 2 (out_BackOfFront ps m).1.length ((out_BackOfFront ps m).1.map (Value.int .i64)) (fun v => .tuple #[v, .bool (out_BackOfFront ps m).2])) := by
  obtain ⟨i0, hi0, hz00, hz01, hz02⟩ := info_parts info_Int64S
  generalize ht : frOk ps m = t
  have HT := Lib.hid ht
  cases t
  · rw [show out_BackOfFront ps m = ([], false) by simp [out_BackOfFront, ht]]
    clear ht
    go_enter Tryd.func22, Tryd.ntmps22
    go_wp2_with (go_at_call 46; refine (areFront_any _ ps m _ hv).mono ?_; rw [HT.out]; rintro e w' ⟨rfl, rfl⟩)
    go_ret2
    exact RetSl.of (f := fun v => .tuple #[v, .bool false]) (World.ownsRow_nil _ _ _ _) (Below.refl _ _)
  · rw [show out_BackOfFront ps m = ((bkSt ps m.toNat ps.length).2, true) by simp [out_BackOfFront, ht]]
    obtain ⟨⟨hm1, hm2⟩, hp1, hp2⟩ := frOk_parts ht
    obtain ⟨n, rfl⟩ : ∃ n : Nat, m = n := ⟨m.toNat, by omega⟩
    rw [Int.toNat_natCast]
    obtain ⟨a, N, c, rfl, hnl, hnc, hcm, hcell⟩ := SlR.opened 0 hv
    rw [bkSt_len2, hnl]
    have hN : N ≤ 512 := by omega
    have HN := Lib.hid hnl
    have HC := Lib.hid hcell
    have HP := Lib.hid hp2
    clear ht hp1 hp2 hnl hcell hcm hnc
    go_enter Tryd.func22, Tryd.ntmps22
    go_wp2_with (first | (go_at_call 46; refine (areFront_any _ ps n _ hv).mono ?_; rw [HT.out]; rintro e w' ⟨rfl, rfl⟩) | (go_at_call 47; refine (counting_any n _ (by omega)).mono ?_; rintro e w1 ⟨aL, cL, rfl, hL, hb1⟩; obtain ⟨g, rfl, hgB, hgl⟩ := own_some hL (by omega)))
    have hO0 : (w1.alloc (.cells #[] 2)).ownsRow (g + 1) 2 1 (.slice (some ⟨w1.heap.size, 0, none⟩) 0 0) 0 [] := World.ownsRow_made w1 #[] 0 (by omega) (Nat.zero_le _) rfl
    go_loopw [7, 19] (fun o i wr => ∃ k : Nat, k ≤ N ∧ i = .int .i64 k ∧ wr.ownsRow w.heap.size 2 1 (.slice (some ⟨g, 0, none⟩) n cL) n ((bkSt ps n k).1.map (Value.int .i64)) ∧ wr.ownsRow (g + 1) 2 1 o k ((bkSt ps n k).2.map (Value.int .i64)) ∧ Below w.heap.size w wr ∧ g < wr.heap.size) (fun _ i _ => N - (intOf i).toNat)
    case atStart => exact ⟨0, Nat.zero_le _, rfl, hL.alloc _, hO0, hb1.alloc hb1.size _, by simp; omega⟩
    case round =>
      clear hL hO0 hb1 hgl
      obtain ⟨k, hk, rfl, hL, hO, hb, hgl⟩ := hrel
      have hbs := hb.size
      by_cases hlt : k < N
      · obtain ⟨b, off, rfl, hc0, hbl⟩ := HC.out k hlt
        rw [List.getD_eq_getElem?_getD] at hc0
        have hc := (hb.cell (p := ⟨b, off + k, none⟩) hbl).trans hc0
        obtain ⟨x1, x2⟩ := inB_get HP.out (k := k) (by rw [HN.out]; exact hlt)
        have HL1 : Hid ((bkSt ps n k).1.length = n) := bkSt_len1 ps n HP.out k (by rw [HN.out]; exact hk)
        have HS : Hid (bkSt ps n (k + 1) = (mtf (bkSt ps n k).1 (ps[k]?.getD 0).toNat, (bkSt ps n k).2 ++ [(bkSt ps n k).1[(ps[k]?.getD 0).toNat]?.getD 0])) := rfl
        generalize ps[k]?.getD 0 = p at *
        obtain ⟨j, rfl⟩ : ∃ j : Nat, p = j := ⟨p.toNat, by omega⟩
        have hjn : j < n := by omega
        clear hc0
        go_wp2_with (first | (go_at_call 49; refine (toFront_any g n cL j _ _ _ hjn (by omega) hL).mono ?_; rintro e w2 ⟨rfl, hL2, hg2⟩; have hO2 := out_keep hO hg2; have hb2 := hb.grown hg2 hbs (fun q hq => by cases hq; exact hgB); have hgl2 := Nat.lt_of_lt_of_le hgl hg2.size) | (at_builtin; refine wpList_append_own _ rfl _ _ 32 rfl (g + 1) 2 i0 (.int .i64 0) 1 8 Tryd.underlying32 hi0 hz00 hz01 hz02 rfl (by decide) u7 _ _ rfl (hO2.alloc _) ⟨(World.heap w2).size, 0, none⟩ 1 1 [.int .i64 ((bkSt ps n k).1[j]?.getD 0)] rfl rfl (cell_one_new _ _ _) (one_oneCell rfl) (by unfold maxLen; omega) (by omega) (by simp only [World.size_alloc]; have := hb2.size; omega) ?_; intro v1 w3 hO3 hgx _; have hb3 := app_below hb2 (by have := hb2.size; omega) _ hgx hO2 (by omega)))
        go_roundw
        case rel =>
          refine ⟨k + 1, by omega, by go_num, ?_, ?_, hb3, by have := hgx.size; simp only [World.size_alloc] at this; omega⟩
          · rw [HS.out, Int.toNat_natCast]; exact list_keep hL2 _ hgx hO2
          · rw [HS.out, Int.toNat_natCast, List.map_append]; exact hO3
        case measure => simp [intOf]; omega
      · obtain rfl : N = k := by omega
        go_wp2
        go_ret2
        exact RetSl.of (f := fun v => .tuple #[v, .bool true]) (ownsRow_base hO (by omega)) hb

theorem idx_facts {xs : List Int} {x : Int} (h : x ∈ xs) : xs.idxOf x < xs.length ∧ xs[xs.idxOf x]?.getD 0 = x ∧ ∀ j, j < xs.idxOf x → xs[j]?.getD 0 ≠ x := by
  have h1 : xs.idxOf x < xs.length := List.idxOf_lt_length_of_mem h
  refine ⟨h1, ?_, fun j hj he => ?_⟩
  · rw [List.getElem?_eq_getElem h1]; exact List.getElem_idxOf h1
  · rw [List.getElem?_eq_getElem (by omega)] at he
    have h2 : (xs[j] == x) = false := List.not_of_lt_findIdx hj
    simp at h2 he
    exact h2 he

set_option maxHeartbeats 400000 in
theorem slIndex_any (v : Value) (xs : List Int) (x : Int) (w : World) (hv : SlR w v (xs.map (Value.int .i64))) (hx : x ∈ xs) :
    Calls Tryd.prog 48 #[v, .int .i64 x] w fun e w' => e = .returned (.int .i64 (xs.idxOf x)) ∧ w = w' := by
  obtain ⟨a, n, c, rfl, hnl, hnc, hcm, hcell⟩ := SlR.opened 0 hv
  unfold maxLen at hcm
  have hn9 : n ≤ 9223372036854775807 := by omega
  obtain ⟨f1, f2, f3⟩ := idx_facts hx
  generalize hq : xs.idxOf x = q at *
  have hqn : q < n := by omega
  have F2 := Lib.hid f2
  have F3 := Lib.hid f3
  have HC := Lib.hid hcell
  clear hnl hcell hcm hnc hv hx f1 f2 f3 hq
  go_enter Tryd.func48, Tryd.ntmps48
  go_wp2
  go_loop [8] (fun i => ∃ k : Nat, k ≤ q ∧ i = .int .i64 k) (fun i => n - (intOf i).toNat)
  case atStart => exact ⟨0, Nat.zero_le _, rfl⟩
  case round =>
    obtain ⟨k, hk, rfl⟩ := hrel
    have hlt : k < n := by omega
    obtain ⟨b, off, rfl, hc, hbl⟩ := HC.out k hlt
    rw [List.getD_eq_getElem?_getD] at hc
    by_cases hkq : k = q
    · have ht : (x == (xs[k]?.getD 0)) = true := by rw [hkq, F2.out]; simp
      have HQ := Lib.hid hkq
      clear hkq
      generalize xs[k]?.getD 0 = y at *
      go_wp2
      go_ret
      exact ⟨ret_int (by rw [HQ.out]), rfl⟩
    · have ht : (x == (xs[k]?.getD 0)) = false := by
        have := F3.out k (by omega)
        rw [beq_eq_false_iff_ne]; exact fun h => this h.symm
      generalize xs[k]?.getD 0 = y at *
      go_wp2
      go_round
      case rel => exact ⟨k + 1, by omega, by go_num⟩
      case measure => simp [intOf]; omega

/-- The list and the places that are told, behind k letters. -/
def frSt (ls : List Int) (n : Nat) : Nat → List Int × List Int
  | 0 => (cnt n, [])
  | k + 1 => (mtf (frSt ls n k).1 ((frSt ls n k).1.idxOf (ls[k]?.getD 0)), (frSt ls n k).2 ++ [((frSt ls n k).1.idxOf (ls[k]?.getD 0) : Int)])
def out_FrontOf (ls : List Int) (n : Int) : List Int × Bool := if frOk ls n then ((frSt ls n.toNat ls.length).2, true) else ([], false)
theorem mem_mtf {xs : List Int} {k : Nat} {x : Int} (hk : k < xs.length) (h : x ∈ xs) : x ∈ mtf xs k := by
  obtain ⟨i, hi, rfl⟩ := List.mem_iff_getElem.1 h
  unfold mtf
  rw [List.mem_cons, List.mem_append]
  rcases Nat.lt_trichotomy i k with h1 | h1 | h1
  · exact .inr (.inl (List.mem_iff_getElem.2 ⟨i, by simp; omega, by simp⟩))
  · subst h1; exact .inl (by simp [List.getElem?_eq_getElem hi])
  · exact .inr (.inr (List.mem_iff_getElem.2 ⟨i - (k + 1), by simp; omega, by simp; congr 1; omega⟩))
theorem frSt_ok (ls : List Int) (n : Nat) (h : ls.all (fun x => inB x 0 ((n : Int) - 1)) = true) : ∀ k, k ≤ ls.length → (frSt ls n k).1.length = n ∧ ∀ x : Int, 0 ≤ x → x < n → x ∈ (frSt ls n k).1
  | 0, _ => ⟨cnt_length n, fun x h0 h1 => by
      show x ∈ cnt n
      unfold cnt
      exact List.mem_map.2 ⟨x.toNat, List.mem_range.2 (by omega), by omega⟩⟩
  | k + 1, hk => by
    obtain ⟨h1, h2⟩ := inB_get h (k := k) (by omega)
    obtain ⟨i1, i2⟩ := frSt_ok ls n h k (by omega)
    have hm := i2 (ls[k]?.getD 0) h1 (by omega)
    have hl := List.idxOf_lt_length_of_mem hm
    exact ⟨by rw [frSt, mtf_length _ _ hl, i1], fun x a b => mem_mtf hl (i2 x a b)⟩
theorem frSt_len2 (ls : List Int) (n : Nat) : ∀ k, (frSt ls n k).2.length = k
  | 0 => rfl
  | k + 1 => by rw [frSt, List.length_append, frSt_len2 ls n k]; rfl

set_option maxHeartbeats 400000 in
theorem impl_FrontOf (w : World) (v : Value) (ls : List Int) (hv : SlR w v (ls.map (Value.int .i64))) (_ : ∀ x ∈ ls, I64 x) (_ : ls.length ≤ 1048576) (m : Int) (_ : I64 m) :
    Calls Tryd.prog 21 #[v, .int .i64 m] w (RetSl w 2 (out_FrontOf ls m).1.length ((out_FrontOf ls m).1.map (Value.int .i64)) (fun v => .tuple #[v, .bool (out_FrontOf ls m).2])) := by
  obtain ⟨i0, hi0, hz00, hz01, hz02⟩ := info_parts info_Int64S
  generalize ht : frOk ls m = t
  have HT := Lib.hid ht
  cases t
  · rw [show out_FrontOf ls m = ([], false) by simp [out_FrontOf, ht]]
    clear ht
    go_enter Tryd.func21, Tryd.ntmps21
    go_wp2_with (go_at_call 46; refine (areFront_any _ ls m _ hv).mono ?_; rw [HT.out]; rintro e w' ⟨rfl, rfl⟩)
    go_ret2
    exact RetSl.of (f := fun v => .tuple #[v, .bool false]) (World.ownsRow_nil _ _ _ _) (Below.refl _ _)
  · rw [show out_FrontOf ls m = ((frSt ls m.toNat ls.length).2, true) by simp [out_FrontOf, ht]]
    obtain ⟨⟨hm1, hm2⟩, hp1, hp2⟩ := frOk_parts ht
    obtain ⟨n, rfl⟩ : ∃ n : Nat, m = n := ⟨m.toNat, by omega⟩
    rw [Int.toNat_natCast]
    obtain ⟨a, N, c, rfl, hnl, hnc, hcm, hcell⟩ := SlR.opened 0 hv
    rw [frSt_len2, hnl]
    have hN : N ≤ 512 := by omega
    have HN := Lib.hid hnl
    have HC := Lib.hid hcell
    have HP := Lib.hid hp2
    clear ht hp1 hp2 hnl hcell hcm hnc
    go_enter Tryd.func21, Tryd.ntmps21
    go_wp2_with (first | (go_at_call 46; refine (areFront_any _ ls n _ hv).mono ?_; rw [HT.out]; rintro e w' ⟨rfl, rfl⟩) | (go_at_call 47; refine (counting_any n _ (by omega)).mono ?_; rintro e w1 ⟨aL, cL, rfl, hL, hb1⟩; obtain ⟨g, rfl, hgB, hgl⟩ := own_some hL (by omega)))
    have hO0 : (w1.alloc (.cells #[] 2)).ownsRow (g + 1) 2 1 (.slice (some ⟨w1.heap.size, 0, none⟩) 0 0) 0 [] := World.ownsRow_made w1 #[] 0 (by omega) (Nat.zero_le _) rfl
    go_loopw [7, 20] (fun o i wr => ∃ k : Nat, k ≤ N ∧ i = .int .i64 k ∧ wr.ownsRow w.heap.size 2 1 (.slice (some ⟨g, 0, none⟩) n cL) n ((frSt ls n k).1.map (Value.int .i64)) ∧ wr.ownsRow (g + 1) 2 1 o k ((frSt ls n k).2.map (Value.int .i64)) ∧ Below w.heap.size w wr ∧ g < wr.heap.size) (fun _ i _ => N - (intOf i).toNat)
    case atStart => exact ⟨0, Nat.zero_le _, rfl, hL.alloc _, hO0, hb1.alloc hb1.size _, by simp; omega⟩
    case round =>
      clear hL hO0 hb1 hgl
      obtain ⟨k, hk, rfl, hL, hO, hb, hgl⟩ := hrel
      have hbs := hb.size
      by_cases hlt : k < N
      · obtain ⟨b, off, rfl, hc0, hbl⟩ := HC.out k hlt
        rw [List.getD_eq_getElem?_getD] at hc0
        have hc := (hb.cell (p := ⟨b, off + k, none⟩) hbl).trans hc0
        obtain ⟨x1, x2⟩ := inB_get HP.out (k := k) (by rw [HN.out]; exact hlt)
        obtain ⟨hl1, hmem⟩ := frSt_ok ls n HP.out k (by rw [HN.out]; exact hk)
        have hm := hmem (ls[k]?.getD 0) x1 (by omega)
        have hjn := List.idxOf_lt_length_of_mem hm
        rw [hl1] at hjn
        have HM := Lib.hid hm
        have HS : Hid (frSt ls n (k + 1) = (mtf (frSt ls n k).1 ((frSt ls n k).1.idxOf (ls[k]?.getD 0)), (frSt ls n k).2 ++ [((frSt ls n k).1.idxOf (ls[k]?.getD 0) : Int)])) := rfl
        generalize ls[k]?.getD 0 = p at *
        generalize hj : (frSt ls n k).1.idxOf p = j at *
        have HJ := Lib.hid hj
        have hsL := SlR.own hL
        clear hc0 hj hm hmem hl1
        go_wp2_with (first | (go_at_call 48; refine (slIndex_any _ _ p _ hsL HM.out).mono ?_; rw [HJ.out]; rintro e w' ⟨rfl, rfl⟩) | (go_at_call 49; refine (toFront_any g n cL j _ _ _ hjn (by omega) hL).mono ?_; rintro e w2 ⟨rfl, hL2, hg2⟩; have hO2 := out_keep hO hg2; have hb2 := hb.grown hg2 hbs (fun q hq => by cases hq; exact hgB); have hgl2 := Nat.lt_of_lt_of_le hgl hg2.size) | (at_builtin; refine wpList_append_own _ rfl _ _ 32 rfl (g + 1) 2 i0 (.int .i64 0) 1 8 Tryd.underlying32 hi0 hz00 hz01 hz02 rfl (by decide) u7 _ _ rfl (hO2.alloc _) ⟨(World.heap w2).size, 0, none⟩ 1 1 [.int .i64 j] rfl rfl (cell_one_new _ _ _) (one_oneCell rfl) (by unfold maxLen; omega) (by omega) (by simp only [World.size_alloc]; have := hb2.size; omega) ?_; intro v1 w3 hO3 hgx _; have hb3 := app_below hb2 (by have := hb2.size; omega) _ hgx hO2 (by omega)))
        go_roundw
        case rel =>
          refine ⟨k + 1, by omega, by go_num, ?_, ?_, hb3, by have := hgx.size; simp only [World.size_alloc] at this; omega⟩
          · rw [HS.out]; exact list_keep hL2 _ hgx hO2
          · rw [HS.out, List.map_append]; exact hO3
        case measure => simp [intOf]; omega
      · obtain rfl : N = k := by omega
        go_wp2
        go_ret2
        exact RetSl.of (f := fun v => .tuple #[v, .bool true]) (ownsRow_base hO (by omega)) hb

theorem len_FrontOf (ls : List Int) (_ : ∀ x ∈ ls, I64 x) (_ : ls.length ≤ 1048576) (m : Int) (_ : I64 m) : (out_FrontOf ls m).1.length ≤ 1048576 := by
  unfold out_FrontOf
  split
  · show (frSt ls m.toNat ls.length).2.length ≤ _
    rw [frSt_len2]; assumption
  · exact Nat.zero_le _

theorem len_BackOfFront (ls : List Int) (_ : ∀ x ∈ ls, I64 x) (_ : ls.length ≤ 1048576) (m : Int) (_ : I64 m) : (out_BackOfFront ls m).1.length ≤ 1048576 := by
  unfold out_BackOfFront
  split
  · show (bkSt ls m.toNat ls.length).2.length ≤ _
    rw [bkSt_len2]; assumption
  · exact Nat.zero_le _

end Go.Proofs.YtjobgobeiiakgaaDoor
