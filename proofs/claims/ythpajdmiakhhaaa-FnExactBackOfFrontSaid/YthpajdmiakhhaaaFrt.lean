/- Fronts: lists of counting numbers, a number moved to the front. -/
import Derived.Test.YthpajdmiakhhaaaCtr2
import Derived.IntWalk
import Derived.Laws.CopyOwn
import Derived.Deep.RegionHeld3
namespace Go.Proofs.Ythpajdmiakhhaaa
open Go.RowKit

/-- The numbers 0, 1, .. -/
def cnt (n : Nat) : List Int := (List.range n).map (fun i : Nat => (i : Int))
theorem cnt_succ (n : Nat) : cnt (n + 1) = cnt n ++ [(n : Int)] := by simp [cnt, List.range_succ]
theorem cnt_length (n : Nat) : (cnt n).length = n := by simp [cnt]

set_option maxHeartbeats 1000000 in
theorem counting_any (n : Nat) (w : World) (hn : n ≤ 1024) :
    Calls Try.prog 51 #[.int .i64 n] w (RetSl w 2 n ((cnt n).map (Value.int .i64)) id) := by
  obtain ⟨i0, hi0, hz00, hz01, hz02⟩ := info_parts info_Int64S
  go_enter Try.func51, Try.ntmps51
  go_wp2
  have hown0 : (w.alloc (.cells #[] 2)).ownsRow w.heap.size 2 1 (.slice (some ⟨w.heap.size, 0, none⟩) 0 0) 0 [] := World.ownsRow_made w #[] 0 (Nat.le_refl _) (Nat.zero_le _) rfl
  have hb0 : Below w.heap.size w (w.alloc (.cells #[] 2)) := by go_grown
  go_loopw [3, 7] (fun v i wr => ∃ k : Nat, k ≤ n ∧ i = .int .i64 k ∧ wr.ownsRow w.heap.size 2 1 v k ((cnt k).map (Value.int .i64)) ∧ Below w.heap.size w wr) (fun _ i _ => n - (intOf i).toNat)
  case atStart => exact ⟨0, Nat.zero_le _, rfl, hown0, hb0⟩
  case round =>
    clear hown0 hb0
    obtain ⟨k, hk, rfl, hown, hb⟩ := hrel
    have hbs := hb.size
    by_cases hlt : k < n
    · go_wp2_with (at_builtin; refine wpList_append_own _ rfl _ _ 22 rfl w.heap.size 2 i0 (.int .i64 0) 1 8 Try.underlying22 hi0 hz00 hz01 hz02 rfl (by decide) u3 _ _ rfl (hown.alloc _) ⟨(World.heap wr).size, 0, none⟩ 1 1 [.int .i64 k] rfl rfl (cell_one_new _ _ _) (one_oneCell rfl) (by unfold maxLen; omega) (by omega) (by simp only [World.size_alloc]; have := hb.size; omega) ?_; intro v1 w1 hown1 hgx _; have hb1 := app_below hb (by have := hb.size; omega) _ hgx hown (by omega))
      rw [show (cnt k).map (Value.int .i64) ++ [.int .i64 k] = (cnt (k + 1)).map (Value.int .i64) by simp [cnt_succ]] at hown1
      go_roundw
      case rel => exact ⟨k + 1, by omega, by go_num, hown1, hb1⟩
      case measure => simp [intOf]; omega
    · obtain rfl : n = k := by omega
      go_wp2
      go_ret
      exact RetSl.of (f := id) hown hb

theorem step_copy_pos {P : Program} {ops : Array Oper} {o : Oper} {a : Act} {w : World} {K : Act → World → Prop} {Q : Exit → Act → World → Prop} {E : Prop} (hgd : o.guard = none) (d s : Operand) (dT sT : TypeId)
    (ho : o.op = .call { callee := .builtin .copy, args := #[d, s], argTypes := #[dT, sT] }) (elem : TypeId) (hu : P.underlying dT = some (.slice elem)) (hsz : (P.info? elem).map (·.size) = some 1)
    (dp sp : Option Addr) (dLen dCap sLen sCap : Nat) (hd : a.eval d = .slice dp dLen dCap) (hs : a.eval s = .slice sp sLen sCap)
    (g off : Nat) (cur : List Value) (t : TypeId) (hg : w.heap[g]? = some (.cells cur.toArray t (0, 0))) (cs : List Value) (hn : cs.length = Nat.min sLen dLen)
    (hdp : dp = some ⟨g, off, none⟩) (ad : Addr) (hsp : sp = some ad) (hsrc : ∀ j v, cs[j]? = some v → w.cell? (ad.add j) = some v)
    (hfit : off + cs.length ≤ cur.length) (h1 : ∀ v ∈ cs, v.oneCell' = true)
    (h : K (a.put o.dst (goInt cs.length)) (w.setRow g (splice cur off cs).toArray)) :
    if Region.wanted o (yielded ops a.tmps) = true then Oper.wp P o a w K Q else E := by
  have hw : Region.wanted o (yielded ops a.tmps) = true := by simp [Region.wanted, hgd]
  rw [if_pos hw]
  subst hdp hsp
  have hrun := run_copy_row (P := P) w dT sT o.type elem g off dLen dCap ad sLen sCap cur.toArray t cs hu hsz hg hn hsrc (by simpa using hfit) h1
  unfold Oper.wp
  simp [execOp, ho, resolve, invoke, builtin, hd, hs, hrun, Result.andThen]
  exact h

theorem step_copy_zero {P : Program} {ops : Array Oper} {o : Oper} {a : Act} {w : World} {K : Act → World → Prop} {Q : Exit → Act → World → Prop} {E : Prop} (hgd : o.guard = none) (d s : Operand) (dT sT : TypeId)
    (ho : o.op = .call { callee := .builtin .copy, args := #[d, s], argTypes := #[dT, sT] }) (elem : TypeId) (hu : P.underlying dT = some (.slice elem)) (hsz : (P.info? elem).map (·.size) = some 1)
    (dp sp : Option Addr) (dLen dCap sLen sCap : Nat) (hd : a.eval d = .slice dp dLen dCap) (hs : a.eval s = .slice sp sLen sCap) (hn : Nat.min sLen dLen = 0)
    (h : K (a.put o.dst (goInt 0)) w) :
    if Region.wanted o (yielded ops a.tmps) = true then Oper.wp P o a w K Q else E := by
  have hw : Region.wanted o (yielded ops a.tmps) = true := by simp [Region.wanted, hgd]
  rw [if_pos hw]
  have hrun := run_copy_none (P := P) w dT sT o.type elem dp sp dLen dCap sLen sCap hu hsz hn
  unfold Oper.wp
  simp [execOp, ho, resolve, invoke, builtin, hd, hs, hrun, Result.andThen]
  exact h

/-- The number at a place, moved to the front. -/
def mtf (xs : List Int) (k : Nat) : List Int := xs[k]?.getD 0 :: (xs.take k ++ xs.drop (k + 1))

theorem mtf_length (xs : List Int) (k : Nat) (h : k < xs.length) : (mtf xs k).length = xs.length := by
  simp [mtf]; omega
theorem mtf_splice (f : Int → Value) (xs : List Int) (cur : List Value) (n k : Nat) (hx : xs.length = n) (hk : k < n) (hc : cur.take n = xs.map f) :
    ((splice cur 1 ((xs.take k).map f)).take n).set 0 (f (xs[k]?.getD 0)) = (mtf xs k).map f := by
  obtain ⟨rest, hr⟩ : ∃ rest, cur = xs.map f ++ rest := ⟨cur.drop n, by rw [← hc, List.take_append_drop]⟩
  subst hr hx
  cases xs with
  | nil => simp at hk
  | cons x t =>
    have h1 : ((t.map f ++ rest).drop ((x :: t).take k).length) = (t.drop k).map f ++ rest := by
      have : ((x :: t).take k).length = k := by simp at hk ⊢; omega
      rw [this, List.drop_append_of_le_length (by simp at hk ⊢; omega), List.map_drop]
    have h2 : splice ((x :: t).map f ++ rest) 1 (((x :: t).take k).map f) = f x :: (((x :: t).take k).map f ++ ((t.drop k).map f ++ rest)) := by
      unfold splice
      rw [List.length_map, show 1 + ((x :: t).take k).length = ((x :: t).take k).length + 1 by omega]
      simp only [List.map_cons, List.cons_append, List.take_succ_cons, List.take_zero, List.drop_succ_cons]
      rw [h1]; rfl
    rw [h2, ← List.cons_append, ← List.append_assoc]
    rw [List.take_append_of_le_length (by simp at hk ⊢; omega), List.take_of_length_le (by simp at hk ⊢; omega)]
    simp [mtf]

set_option maxHeartbeats 1000000 in
theorem toFront_any (g n c k : Nat) (xs : List Int) (B : Nat) (w : World) (hk : k < n) (hn : n ≤ 1024) (hown : w.ownsRow B 2 1 (.slice (some ⟨g, 0, none⟩) n c) n (xs.map (Value.int .i64))) :
    Calls Try.prog 52 #[.slice (some ⟨g, 0, none⟩) n c, .int .i64 k] w fun e w' => e = .returned (.int .i64 (xs[k]?.getD 0)) ∧ w'.ownsRow B 2 1 (.slice (some ⟨g, 0, none⟩) n c) n ((mtf xs k).map (Value.int .i64)) ∧ w.grownBy w' (some g) := by
  have hxl : xs.length = n := by have := hown.1; simpa using this
  have hd := hown.cellAt k (by omega)
  have hf := hown.frozenAt 0
  rw [show (xs.map (Value.int .i64))[k]? = some (Value.int .i64 (xs[k]?.getD 0)) by rw [List.getElem?_map, List.getElem?_eq_getElem (by omega)]; rfl] at hd
  have hsz : (Try.prog.info? 2).map (·.size) = some 1 := by kernel_rfl
  obtain ⟨hlen, hcase⟩ := hown
  rcases hcase with ⟨h, _⟩ | ⟨g', cap, cur, hv, hBg, hg, hnc, hcm, hcs, htake⟩
  · simp at h
  simp only [Value.slice.injEq, Option.some.injEq, Addr.mk.injEq, and_true, true_and] at hv
  obtain ⟨rfl, rfl⟩ := hv
  have hc9 : c ≤ 9223372036854775807 := by unfold maxLen at hcm; omega
  have HX := Lib.hid hxl
  have HT := Lib.hid htake
  have HG := Lib.hid hg
  have HS := Lib.hid hsz
  generalize hz : xs[k]?.getD 0 = z at *
  have HZ := Lib.hid hz
  clear hz hxl htake hg hsz hlen
  have e1 : IntKind.i64.wrap ((k : Int) + 1) = (k : Int) + 1 := IntWalk.i64_in _ (by omega)
  have e3 : (0 : Int) ≤ (k : Int) + 1 := by omega
  have e4 : (k : Int) + 1 ≤ (c : Int) := by omega
  have e5 : (1 : Int) ≤ (k : Int) + 1 := by omega
  have e6 : (k : Int) ≤ (c : Int) := by omega
  have e7 : (0 : Int) ≤ (k : Int) := by omega
  have e2 : ((k : Int) + 1).toNat = k + 1 := by omega
  by_cases h0 : 1 ≤ k
  · have hc1 : ¬ c = 1 := by omega
    have HGd : Hid (w.drew.heap[g]? = some (.cells cur.toList.toArray 2 (0, 0))) := by
      have h : w.heap[g]? = some (.cells cur.toList.toArray 2 (0, 0)) := by simpa using HG.out
      exact h
    have hcl : cur.toList.length = c := by simpa using hcs
    have hmm : Nat.min k k = k := Nat.min_self k
    have HL : Hid (((xs.take k).map (Value.int .i64)).length = Nat.min k k) := by
      show ((xs.take k).map (Value.int .i64)).length = Nat.min k k
      rw [List.length_map, List.length_take, HX.out, hmm, Nat.min_eq_left (by omega)]
    have HSR : Hid (∀ j v, ((xs.take k).map (Value.int .i64))[j]? = some v → w.drew.cell? ((⟨g, 0, none⟩ : Addr).add j) = some v) := by
      intro j v hj
      rw [Addr.add_lit, Nat.zero_add]
      show w.cell? ⟨g, j, none⟩ = some v
      rw [cell_of_row w g j cur 2 (0, 0) HG.out]
      have hjk : j < k := by
        have := (List.getElem?_eq_some_iff.1 hj).1
        simp at this; omega
      have ht := HT.out
      rw [Nat.mul_one] at ht
      have h2 : (cur.toList.take n)[j]? = some v := by
        rw [ht, List.getElem?_map]
        rw [List.getElem?_map, List.getElem?_take, if_pos hjk] at hj
        exact hj
      rw [List.getElem?_take, if_pos (by omega)] at h2
      simpa using h2
    have HFT : Hid (1 + ((xs.take k).map (Value.int .i64)).length ≤ cur.toList.length) := by
      show _ ≤ _
      rw [HL.out, hcl, hmm]; omega
    have H1 : Hid (∀ v ∈ (xs.take k).map (Value.int .i64), v.oneCell' = true) := ints_oneCell .i64 _
    go_enter Try.func52, Try.ntmps52
    go_wp2
    clear hcl hmm
    go_region_held3 (fun _ => True) (trivial) (refine step_copy_pos rfl (.tmp 13) (.tmp 16) 22 22 rfl 2 Try.underlying22 HS.out (some ⟨g, 1, none⟩) (some ⟨g, 0, none⟩) k (c - 1) k c rfl rfl g 1 cur.toList 2 HGd.out ((xs.take k).map (Value.int .i64)) HL.out rfl ⟨g, 0, none⟩ rfl HSR.out HFT.out H1.out ?_)
    obtain ⟨L, hL⟩ : ∃ L, L = splice cur.toList 1 ((xs.take k).map (Value.int .i64)) := ⟨_, rfl⟩
    have hLl : L.length = c := by rw [hL, length_splice _ _ _ HFT.out]; simpa using hcs
    have hh := setRow_heap w.drew g cur L.toArray 2 (0, 0) (show w.drew.heap[g]? = _ from HG.out)
    have hoth : w.grownBy (w.drew.setRow g L.toArray) (some g) := ⟨rfl, rfl, rfl, by simp [World.setRow], fun i _ hi => setRow_other w.drew g i _ (fun e => hi (by rw [e]))⟩
    rw [← hL]
    have hown1 : (w.drew.setRow g L.toArray).ownsRow B 2 1 (.slice (some ⟨g, 0, none⟩) n c) n (L.take n) :=
      ⟨by simp; omega, .inr ⟨g, c, L.toArray, rfl, hBg, hh, hnc, hcm, by simpa using hLl, by simp⟩⟩
    generalize w.drew.setRow g L.toArray = W1 at *
    have hd1 := hown1.cellAt 0 (by omega)
    obtain ⟨u, hu⟩ : ∃ u, (L.take n)[0]? = some u := ⟨_, List.getElem?_eq_getElem (by simp; omega)⟩
    rw [hu] at hd1
    have hf1 := hown1.frozenAt 0
    have HST := Lib.hid (hown1.stored 0 (.int .i64 z))
    have HLL := Lib.hid hL
    clear hL hu hh HGd HL HSR HFT H1 hcs hd hf
    go_wp2
    go_ret
    refine ⟨rfl, ?_, grownBy_trans hoth HST.out.2⟩
    have h2 := HST.out.1
    rw [HLL.out, ← HZ.out, mtf_splice _ xs _ n k HX.out hk (by have := HT.out; rwa [Nat.mul_one] at this)] at h2
    rw [← HZ.out]
    exact h2
  · have hmm : Nat.min k k = 0 := (Nat.min_self k).trans (by omega)
    have HM := Lib.hid hmm
    have hh : w.heap[g]? = some (.cells cur 2 (0, 0)) := HG.out
    have hown1 : w.drew.ownsRow B 2 1 (.slice (some ⟨g, 0, none⟩) n c) n (xs.map (Value.int .i64)) :=
      ⟨by simp [HX.out], .inr ⟨g, c, cur, rfl, hBg, hh, hnc, hcm, hcs, HT.out⟩⟩
    have hd1 := hown1.cellAt 0 (by omega)
    obtain ⟨u, hu⟩ : ∃ u, (xs.map (Value.int .i64))[0]? = some u := ⟨_, List.getElem?_eq_getElem (by have := HX.out; simp; omega)⟩
    rw [hu] at hd1
    have hf1 := hown1.frozenAt 0
    have HST := Lib.hid (hown1.stored 0 (.int .i64 z))
    have hg1 : w.grownBy w.drew (some g) := ⟨rfl, rfl, rfl, Nat.le_refl _, fun _ _ _ => rfl⟩
    have HE : Hid ((xs.map (Value.int .i64)).set 0 (.int .i64 z) = (mtf xs k).map (Value.int .i64)) := by
      have hk0 : k = 0 := by omega
      have hz := HZ.out
      have hx := HX.out
      subst hk0 hz
      cases xs with
      | nil => simp at hx; omega
      | cons x t => show (_ : List Value) = _; simp [mtf]
    clear hh hu hmm hcs
    by_cases hc1 : c = 1
    · have HC := Lib.hid hc1
      have hcx : (c = 1) = True := by simp [hc1]
      clear hc1
      go_enter Try.func52, Try.ntmps52
      go_wp2
      go_region_held3 (fun _ => True) (trivial) (refine step_copy_zero rfl (.tmp 13) (.tmp 16) 22 22 rfl 2 Try.underlying22 HS.out (some ⟨g, 0, none⟩) (some ⟨g, 0, none⟩) k (c - 1) k c rfl rfl HM.out ?_)
      go_wp2
      go_ret
      refine ⟨rfl, ?_, grownBy_trans hg1 HST.out.2⟩
      have h2 := HST.out.1
      rw [HE.out] at h2
      exact h2
    · go_enter Try.func52, Try.ntmps52
      go_wp2
      go_region_held3 (fun _ => True) (trivial) (refine step_copy_zero rfl (.tmp 13) (.tmp 16) 22 22 rfl 2 Try.underlying22 HS.out (some ⟨g, 1, none⟩) (some ⟨g, 0, none⟩) k (c - 1) k c rfl rfl HM.out ?_)
      go_wp2
      go_ret
      refine ⟨rfl, ?_, grownBy_trans hg1 HST.out.2⟩
      have h2 := HST.out.1
      rw [HE.out] at h2
      exact h2

def shf (xs : List Int) (k j : Nat) : List Int := xs.take (j + 1) ++ ((xs.take k).drop j ++ xs.drop (k + 1))
theorem shf_length (xs : List Int) (k j : Nat) (hk : k < xs.length) (hj : j ≤ k) : (shf xs k j).length = xs.length := by
  simp [shf]; omega
theorem shf_get (xs : List Int) (k j : Nat) (hk : k < xs.length) (hj : j < k) : (shf xs k (j + 1))[j]?.getD 0 = xs[j]?.getD 0 := by
  unfold shf
  rw [List.getElem?_append_left (by simp; omega), List.getElem?_take, if_pos (by omega)]
theorem shf_set (xs : List Int) (k j : Nat) (hk : k < xs.length) (hj : j < k) : (shf xs k (j + 1)).set (j + 1) (xs[j]?.getD 0) = shf xs k j := by
  unfold shf
  have h1 : xs.take (j + 1 + 1) = xs.take (j + 1) ++ [xs[j + 1]'(by omega)] := List.take_succ_eq_append_getElem (by omega)
  have h2 : (xs.take (j + 1)).length = j + 1 := by simp; omega
  have h3 : (xs.take k).drop j = xs[j]?.getD 0 :: (xs.take k).drop (j + 1) := by
    rw [List.drop_eq_getElem_cons (by simp; omega), List.getElem_take, List.getElem?_eq_getElem (by omega)]; rfl
  rw [h1, List.append_assoc, List.set_append_right _ _ (by omega), h2, Nat.sub_self, List.singleton_append, List.set_cons_zero, h3]
  rfl
theorem shf_zero (xs : List Int) (k : Nat) (hk : k < xs.length) : (shf xs k 0).set 0 (xs[k]?.getD 0) = mtf xs k := by
  cases xs with
  | nil => simp at hk
  | cons x t => simp [shf, mtf]
theorem shf_top (xs : List Int) (k : Nat) : shf xs k k = xs := by
  simp [shf]

set_option maxHeartbeats 1000000 in
theorem l04Front_any (g n c k : Nat) (xs : List Int) (B : Nat) (w : World) (hk : k < n) (hn : n ≤ 1024) (hown : w.ownsRow B 2 1 (.slice (some ⟨g, 0, none⟩) n c) n (xs.map (Value.int .i64))) :
    Calls Try.prog 49 #[.slice (some ⟨g, 0, none⟩) n c, .int .i64 k] w fun e w' => e = .returned (.tuple #[]) ∧ w'.ownsRow B 2 1 (.slice (some ⟨g, 0, none⟩) n c) n ((mtf xs k).map (Value.int .i64)) ∧ w.grownBy w' (some g) := by
  have hxl : xs.length = n := by have := hown.1; simpa using this
  have hd := hown.cellAt k (by omega)
  rw [show (xs.map (Value.int .i64))[k]? = some (Value.int .i64 (xs[k]?.getD 0)) by rw [List.getElem?_map, List.getElem?_eq_getElem (by omega)]; rfl] at hd
  have HX := Lib.hid hxl
  clear hxl
  generalize hz : xs[k]?.getD 0 = z at *
  have HZ := Lib.hid hz
  clear hz
  go_enter Try.func49, Try.ntmps49
  go_wp2
  go_loopw [1] (fun i wr => ∃ j : Nat, j ≤ k ∧ i = .int .i64 j ∧ wr.ownsRow B 2 1 (.slice (some ⟨g, 0, none⟩) n c) n ((shf xs k j).map (Value.int .i64)) ∧ w.grownBy wr (some g)) (fun i _ => (intOf i).toNat)
  case atStart => exact ⟨k, Nat.le_refl _, rfl, by rw [shf_top]; exact hown, World.grownBy.refl _ _⟩
  case round =>
    clear hown hd
    obtain ⟨j, hj, rfl, hown, hg⟩ := hrel
    by_cases h0 : 1 ≤ j
    · obtain ⟨i, hi⟩ : ∃ i, j = i + 1 := ⟨j - 1, by omega⟩
      subst hi
      have hkx : k < xs.length := by rw [HX.out]; exact hk
      have hd := hown.cellAt i (by omega)
      rw [show ((shf xs k (i + 1)).map (Value.int .i64))[i]? = some (Value.int .i64 (xs[i]?.getD 0)) by rw [List.getElem?_map, ← shf_get xs k i hkx (by omega), List.getElem?_eq_getElem (by rw [shf_length xs k _ hkx (by omega)]; omega)]; rfl] at hd
      have hd2 := hown.cellAt (i + 1) (by omega)
      obtain ⟨u, hu⟩ : ∃ u, ((shf xs k (i + 1)).map (Value.int .i64))[i + 1]? = some u := ⟨_, List.getElem?_eq_getElem (by rw [List.length_map, shf_length xs k _ hkx (by omega), HX.out]; omega)⟩
      rw [hu] at hd2
      have hf := hown.frozenAt (i + 1)
      have HST := Lib.hid (hown.stored (i + 1) (.int .i64 (xs[i]?.getD 0)))
      have e1 : (((i + 1 : Nat) : Int) - 1).toNat = i := by omega
      have e2 : (0 : Int) ≤ ((i + 1 : Nat) : Int) - 1 := by omega
      clear hu
      go_wp2
      go_roundw
      case rel =>
        refine ⟨i, by omega, rfl, ?_, grownBy_trans hg HST.out.2⟩
        have h2 := HST.out.1
        rw [← List.map_set, shf_set xs k i hkx (by omega)] at h2
        exact h2
      case measure => simp [intOf]
    · have hkx : k < xs.length := by rw [HX.out]; exact hk
      obtain ⟨u, hu⟩ : ∃ u, ((shf xs k j).map (Value.int .i64))[0]? = some u := ⟨_, List.getElem?_eq_getElem (by rw [List.length_map, shf_length xs k _ hkx (by omega), HX.out]; omega)⟩
      have hd2 := hown.cellAt 0 (by omega)
      rw [hu] at hd2
      have hf := hown.frozenAt 0
      have HST := Lib.hid (hown.stored 0 (.int .i64 z))
      have HJ : Hid (j = 0) := by show j = 0; omega
      clear hu
      go_wp2
      go_end0
      refine ⟨rfl, ?_, grownBy_trans hg HST.out.2⟩
      have h2 := HST.out.1
      rw [HJ.out, ← HZ.out, ← List.map_set, shf_zero xs k hkx] at h2
      rw [← HZ.out]
      exact h2

set_option maxHeartbeats 1000000 in
theorem l04Order_any (n : Nat) (w : World) (hn : n ≤ 1024) :
    Calls Try.prog 48 #[.int .i64 n] w (RetSl w 2 n ((cnt n).map (Value.int .i64)) id) := by
  obtain ⟨i0, hi0, hz00, hz01, hz02⟩ := info_parts info_Int64S
  go_enter Try.func48, Try.ntmps48
  go_wp2
  have hown0 : (w.alloc (.cells #[] 2)).ownsRow w.heap.size 2 1 (.slice (some ⟨w.heap.size, 0, none⟩) 0 0) 0 [] := World.ownsRow_made w #[] 0 (Nat.le_refl _) (Nat.zero_le _) rfl
  have hb0 : Below w.heap.size w (w.alloc (.cells #[] 2)) := by go_grown
  go_loopw [3, 4] (fun v i wr => ∃ k : Nat, k ≤ n ∧ i = .int .i64 k ∧ wr.ownsRow w.heap.size 2 1 v k ((cnt k).map (Value.int .i64)) ∧ Below w.heap.size w wr) (fun _ i _ => n - (intOf i).toNat)
  case atStart => exact ⟨0, Nat.zero_le _, rfl, hown0, hb0⟩
  case round =>
    clear hown0 hb0
    obtain ⟨k, hk, rfl, hown, hb⟩ := hrel
    have hbs := hb.size
    by_cases hlt : k < n
    · go_wp2_with (at_builtin; refine wpList_append_own _ rfl _ _ 22 rfl w.heap.size 2 i0 (.int .i64 0) 1 8 Try.underlying22 hi0 hz00 hz01 hz02 rfl (by decide) u3 _ _ rfl (hown.alloc _) ⟨(World.heap wr).size, 0, none⟩ 1 1 [.int .i64 k] rfl rfl (cell_one_new _ _ _) (one_oneCell rfl) (by unfold maxLen; omega) (by omega) (by simp only [World.size_alloc]; have := hb.size; omega) ?_; intro v1 w1 hown1 hgx _; have hb1 := app_below hb (by have := hb.size; omega) _ hgx hown (by omega))
      rw [show (cnt k).map (Value.int .i64) ++ [.int .i64 k] = (cnt (k + 1)).map (Value.int .i64) by simp [cnt_succ]] at hown1
      go_roundw
      case rel => exact ⟨k + 1, by omega, by go_num, hown1, hb1⟩
      case measure => simp [intOf]; omega
    · obtain rfl : n = k := by omega
      go_wp2
      go_ret
      exact RetSl.of (f := id) hown hb

end Go.Proofs.Ythpajdmiakhhaaa
