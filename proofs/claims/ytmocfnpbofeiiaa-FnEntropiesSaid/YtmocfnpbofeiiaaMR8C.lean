/- Counts and rows drawn from bytes (R8Counts, R8Row). -/
import Derived.Test.YtmocfnpbofeiiaaMBcC
import Derived.Test.YtmocfnpbofeiiaaMTeP
import Derived.Deep.RegionHeld3
import Derived.Deep.Cut
namespace Go.Proofs.Ytmocfnpbofeiiaa
set_option linter.unusedSimpArgs false
set_option linter.unusedVariables false
open Go.RowKit
open Ieee
/-- Counts drawn: n of them, from 0 to 8, the last one not 0. -/
structure Cn (cs : List Nat) (n : Nat) : Prop where
  len : cs.length = n
  top : ∀ c ∈ cs, c ≤ 8
  last : 1 ≤ cs[n - 1]?.getD 0
theorem Cn.of {bs : List Nat} {x n : Nat} (h1 : bs.length + 1 = n) (h2 : ∀ c ∈ bs, c ≤ 8) (h3 : x < 8) : Cn (bs ++ [1 + x]) n := by
  refine ⟨by simp; omega, fun c hc => ?_, ?_⟩
  · rcases List.mem_append.1 hc with h | h
    · exact h2 c h
    · rw [List.mem_singleton] at h; omega
  · rw [show n - 1 = bs.length by omega, List.getElem?_append_right (Nat.le_refl _), Nat.sub_self]
    simp
theorem sum_top {cs : List Nat} (h : ∀ c ∈ cs, c ≤ 8) : cs.sum ≤ 8 * cs.length := by
  induction cs with
  | nil => simp
  | cons c cs ih =>
    have h1 := ih (fun x hx => h x (List.mem_cons_of_mem _ hx))
    have h2 := h c (List.mem_cons_self ..)
    rw [List.sum_cons, List.length_cons]; omega
theorem mem_sum {cs : List Nat} {c : Nat} (h : c ∈ cs) : c ≤ cs.sum := by
  induction cs with
  | nil => cases h
  | cons d cs ih =>
    rw [List.sum_cons]
    rcases List.mem_cons.1 h with rfl | h
    · omega
    · have := ih h; omega
theorem Cn.sum {cs : List Nat} {n : Nat} (h : Cn cs n) (hn : 1 ≤ n) : 1 ≤ cs.sum ∧ cs.sum ≤ 8 * n := by
  refine ⟨?_, by have := sum_top h.top; rw [h.len] at this; exact this⟩
  have hl : n - 1 < cs.length := by rw [h.len]; omega
  have := mem_sum (c := cs[n - 1]?.getD 0) (by rw [List.getElem?_eq_getElem hl]; exact List.getElem_mem _)
  have := h.last
  omega
def cnV (cs : List Nat) : List Value := cs.map nvI
theorem cnV_snoc (cs : List Nat) (c : Nat) : cnV (cs ++ [c]) = cnV cs ++ [nvI c] := by simp [cnV]
theorem cnV_length (cs : List Nat) : (cnV cs).length = cs.length := by simp [cnV]

set_option maxRecDepth 4000 in
set_option maxHeartbeats 4000000 in
theorem l02DrawCounts_any (w0 W : World) (b m n : Nat) (sv : Value) (l : List UInt8) (hl : l.length ≤ 1048576) (hm : m ≤ 1000) (hn1 : 1 ≤ n) (hn : n ≤ 16) (hv : SlR w0 sv (byv l)) (h : Src w0 b sv m W) :
    Calls Try.prog 66 #[.pointer (some ⟨b, 0, none⟩), .int .i64 (n : Int)] W fun e w' => (∃ (cs : List Nat) (a : Option Addr) (c : Nat), Cn cs n ∧ e = .returned (.slice a n c) ∧ w'.ownsRow W.heap.size 2 1 (.slice a n c) n (cnV cs)) ∧ Src w0 b sv (m + n) w' ∧ W.grownBy w' (some b) := by
  obtain ⟨i0, hi0, hz00, hz01, hz02⟩ := info_parts info_Int64S
  have HP : Hid (∀ (W' : World) (j q : Nat), j ≤ 2000 → 2 ≤ q → q ≤ 9 → Src w0 b sv j W' → Calls Try.prog 108 #[.pointer (some ⟨b, 0, none⟩), .int .i64 (q : Int)] W' fun e w' => (∃ x : Nat, x < q ∧ e = .returned (.int .i64 (x : Int))) ∧ Src w0 b sv (j + 1) w' ∧ W'.grownBy w' (some b)) := Lib.hid fun W' j q hj h1 h2 hs => pick_any w0 W' b j q sv l hl (by omega) h1 (by omega) hv hs
  have HP9 := Lib.hid (fun W' j hj hs => HP.out W' j 9 hj (by omega) (by omega) hs)
  have HP8 := Lib.hid (fun W' j hj hs => HP.out W' j 8 hj (by omega) (by omega) hs)
  have hbW : b < W.heap.size := h.2.1
  clear hv HP
  have hown0 : (W.alloc (.cells #[] 2)).ownsRow W.heap.size 2 1 (.slice (some ⟨W.heap.size, 0, none⟩) 0 0) 0 [] := World.ownsRow_made W #[] 0 (Nat.le_refl _) (Nat.zero_le _) rfl
  have hb0 : Below W.heap.size W (W.alloc (.cells #[] 2)) := by go_grown
  have hs0 := h.below (hb0.mono (by omega))
  have hg0 : W.grownBy (W.alloc (.cells #[] 2)) (some b) := grown_then (World.grownBy.refl _ _) hb0
  clear h hb0
  have HSN : Hid (∀ cs c, cnV (cs ++ [c]) = cnV cs ++ [nvI c]) := cnV_snoc
  go_enter Try.func66, Try.ntmps66
  go_wp2
  go_loopw [1, 5] (fun q v wr => ∃ (bs : List Nat) (k : Nat), bs.length + k = n ∧ 1 ≤ k ∧ q = .int .i64 (k : Int) ∧ Hid (∀ c ∈ bs, c ≤ 8) ∧ wr.ownsRow W.heap.size 2 1 v bs.length (cnV bs) ∧ Src w0 b sv (m + bs.length) wr ∧ W.grownBy wr (some b)) (fun q _ _ => (intOf q).toNat)
  case atStart => exact ⟨[], n, by simp, hn1, rfl, Lib.hid (fun x hx => by cases hx), hown0, hs0, hg0⟩
  case round =>
    clear hown0 hs0 hg0
    obtain ⟨bs, k, hk, hk1, rfl, hbs, hown, hs, hg⟩ := hrel
    have hgs := hg.size
    by_cases hlt : 1 < k
    · go_wp2_with (first
        | (go_at_call 108; refine (HP9.out wr (m + bs.length) (by omega) hs).mono ?_; rintro e w1 ⟨⟨x, hx, rfl⟩, hs1, hg1⟩; have hown1 := own_apart (u := .slice (some ⟨b, 0, none⟩) 0 0) hown hg1 (fun k hk => by simp [Value.ownBlock] at hk; omega); have hG1 := grownBy_trans hg hg1; have hbr := Below.refl W.heap.size w1; have hG1s := hG1.size)
        | (at_builtin; refine wpList_append_own _ rfl _ _ 30 rfl W.heap.size 2 i0 (.int .i64 0) 1 8 Try.underlying30 hi0 hz00 hz01 hz02 rfl (by decide) u5 _ _ rfl (hown1.alloc _) ⟨(World.heap w1).size, 0, none⟩ 1 1 [.int .i64 (x : Int)] rfl rfl (cell_one_new _ _ _) (one_oneCell rfl) (by unfold maxLen; omega) (by omega) (by simp only [World.size_alloc]; have := hbr.size; omega) ?_; intro v1 w2 hown2 hgx _; have hb2 := app_below hbr (by have := hbr.size; omega) _ hgx hown1 (by omega)))
      have hG2 := grown_then hG1 hb2
      have hs2 := hs1.below (hb2.mono (show b + 1 ≤ W.heap.size by omega))
      have hsn := HSN.out bs x
      unfold nvI at hsn
      rw [← hsn] at hown2
      go_roundw
      case rel =>
        refine ⟨bs ++ [x], k - 1, by rw [List.length_append, List.length_singleton]; omega, by omega, by congr 1; omega, Lib.hid (fun c hc => ?_), by rw [List.length_append, List.length_singleton]; exact hown2, by rw [List.length_append, List.length_singleton]; exact hs2, hG2⟩
        rcases List.mem_append.1 hc with h | h
        · exact hbs.out c h
        · rw [List.mem_singleton] at h; omega
      case measure => simp [intOf]; omega
    · obtain rfl : k = 1 := by omega
      go_wp2_with (first
        | (go_at_call 108; refine (HP8.out wr (m + bs.length) (by omega) hs).mono ?_; rintro e w1 ⟨⟨x, hx, rfl⟩, hs1, hg1⟩; have hown1 := own_apart (u := .slice (some ⟨b, 0, none⟩) 0 0) hown hg1 (fun k hk => by simp [Value.ownBlock] at hk; omega); have hG1 := grownBy_trans hg hg1; have hbr := Below.refl W.heap.size w1; have hG1s := hG1.size)
        | (at_builtin; refine wpList_append_own _ rfl _ _ 30 rfl W.heap.size 2 i0 (.int .i64 0) 1 8 Try.underlying30 hi0 hz00 hz01 hz02 rfl (by decide) u5 _ _ rfl (hown1.alloc _) ⟨(World.heap w1).size, 0, none⟩ 1 1 [.int .i64 (1 + (x : Int))] rfl rfl (cell_one_new _ _ _) (one_oneCell rfl) (by unfold maxLen; omega) (by omega) (by simp only [World.size_alloc]; have := hbr.size; omega) ?_; intro v1 w2 hown2 hgx _; have hb2 := app_below hbr (by have := hbr.size; omega) _ hgx hown1 (by omega)))
      have hG2 := grown_then hG1 hb2
      have hs2 := hs1.below (hb2.mono (show b + 1 ≤ W.heap.size by omega))
      have hsn := HSN.out bs (1 + x)
      unfold nvI at hsn
      rw [Int.natCast_add, show ((1 : Nat) : Int) = 1 from rfl] at hsn
      rw [← hsn] at hown2
      obtain ⟨a, c, rfl⟩ := ownsRow_shape hown2
      go_ret
      have hn' : bs.length + 1 = n := hk
      rw [hn'] at hown2
      refine ⟨⟨bs ++ [1 + x], a, c, Cn.of hn' hbs.out hx, by rw [hn']; rfl, hown2⟩, ?_, hG2⟩
      rw [show m + n = m + bs.length + 1 by omega]
      exact hs2

set_option maxHeartbeats 1000000 in
theorem R8Counts_any (w : World) (sv : Value) (l : List UInt8) (n : Nat) (hl : l.length ≤ 1048576) (hn1 : 1 ≤ n) (hn : n ≤ 16) (hv : SlR w sv (byv l)) :
    Calls Try.prog 16 #[sv, .int .i64 (n : Int)] w fun e w' => (∃ (cs : List Nat) (v : Value), Cn cs n ∧ e = .returned v ∧ SlR w' v (cnV cs)) ∧ Below w.heap.size w w' := by
  have HF := Lib.hid (from_any w sv l hv)
  have HC := Lib.hid (fun (W : World) (hs : Src w w.heap.size sv 0 W) => l02DrawCounts_any w W w.heap.size 0 n sv l hl (by omega) hn1 hn hv hs)
  obtain ⟨a, k0, c0, rfl, -, -, -, -⟩ := SlR.opened (0 : UInt8) hv
  clear hv
  go_enter Try.func16, Try.ntmps16
  go_wp2_with (first
    | (go_at_call 66; refine (HC.out _ hs).mono ?_; rintro e w2 ⟨⟨ks, a2, c2, hk, rfl, ho⟩, hs2, hg2⟩)
    | (go_at_call 58; refine HF.out.mono ?_; rintro e w1 ⟨rfl, hs, -⟩))
  go_ret
  exact ⟨⟨ks, _, hk, rfl, SlR.own ho⟩, hs2.2.2.1⟩
theorem sum_take (cs : List Nat) {k : Nat} (h : k < cs.length) : (cs.take (k + 1)).sum = (cs.take k).sum + cs[k]?.getD 0 := by
  rw [List.take_succ_eq_append_getElem h, List.sum_append, List.getElem?_eq_getElem h]
  simp

set_option maxHeartbeats 1000000 in
theorem totalC_any (n : Nat) (cs : List Nat) (v : Value) (w : World) (hc : Cn cs n) (hn1 : 1 ≤ n) (hn : n ≤ 16) (hv : SlR w v (cnV cs)) :
    Calls Try.prog 107 #[v] w fun e w' => e = .returned (.int .i64 ((cs.sum : Nat) : Int)) ∧ w = w' := by
  obtain ⟨a, c, rfl, hnc, hcm, hcell⟩ := hv
  rw [cnV_length, hc.len] at hnc ⊢
  have HC : Hid (∀ k, k < n → ∃ g off, a = some ⟨g, off, none⟩ ∧ w.cell? ⟨g, off + k, none⟩ = some (.int .i64 ((cs[k]?.getD 0 : Nat) : Int))) := Lib.hid fun k hk => by
    obtain ⟨g, off, ha, h⟩ := hcell k (nvI (cs[k]?.getD 0)) (by unfold cnV; rw [List.getElem?_map, List.getElem?_eq_getElem (by rw [hc.len]; exact hk)]; rfl)
    exact ⟨g, off, ha, h⟩
  have HT : Hid (∀ k, k < n → (cs.take (k + 1)).sum = (cs.take k).sum + cs[k]?.getD 0) := Lib.hid fun k hk => sum_take cs (by rw [hc.len]; exact hk)
  have HB : Hid (∀ k, k ≤ n → (cs.take k).sum ≤ 8 * n) := Lib.hid fun k hk => by
    have h1 := sum_top (cs := cs.take k) (fun x hx => hc.top x (List.mem_of_mem_take hx))
    have h2 : (cs.take k).length ≤ n := by rw [List.length_take, hc.len]; omega
    omega
  have HE : Hid (cs.sum = (cs.take n).sum) := Lib.hid (by rw [List.take_of_length_le (by rw [hc.len]; exact Nat.le_refl _)])
  have HX : Hid (∀ k, k < n → cs[k]?.getD 0 ≤ 8) := Lib.hid fun k hk => hc.top _ (by rw [List.getElem?_eq_getElem (by rw [hc.len]; exact hk)]; exact List.getElem_mem _)
  unfold maxLen at hcm
  clear hcell hc
  generalize cs.sum = S at *
  go_enter Try.func107, Try.ntmps107
  go_wp2
  go_loop [3, 4] (fun s i => ∃ k : Nat, k ≤ n ∧ i = .int .i64 (k : Int) ∧ s = .int .i64 (((cs.take k).sum : Nat) : Int)) (fun _ i => n - (intOf i).toNat)
  case atStart => exact ⟨0, Nat.zero_le _, rfl, rfl⟩
  case round =>
    obtain ⟨k, hk, rfl, rfl⟩ := hrel
    by_cases hlt : k < n
    · obtain ⟨g, off, rfl, hcl⟩ := HC.out k hlt
      have hT := HT.out k hlt
      have hb := HB.out k (by omega)
      have hx := HX.out k hlt
      have HTT := Lib.hid hT
      clear hT
      generalize (cs.take k).sum = t at *
      generalize cs[k]?.getD 0 = x at *
      go_wp2
      go_round
      case rel => exact ⟨k + 1, by omega, by go_num, by rw [HTT.out]; push_cast; rfl⟩
      case measure => simp [intOf]; omega
    · obtain rfl : k = n := by omega
      rw [← HE.out]
      go_wp2
      go_ret
      exact ⟨rfl, rfl⟩
theorem fw_quo9 : ∀ s : Nat, s < 129 → 1 ≤ s → ∀ k : Nat, k < 9 → (floatBits .quo .f32 (fw k) (fw s)).isSome = true := by decide +kernel
/-- The first k of the row. -/
def rwV (cs : List Nat) (k : Nat) : List Value := ((rowK cs).take k).map (Value.float .f32)
theorem rwV_succ (cs : List Nat) {k : Nat} (h : k < cs.length) : rwV cs (k + 1) = rwV cs k ++ [.float .f32 (fA .quo .f32 (fw (cs[k]?.getD 0)) (fw cs.sum))] := by
  unfold rwV
  rw [List.take_succ_eq_append_getElem (by simpa [rowK] using h), List.map_append]
  congr 1
  simp only [rowK, List.getElem_map]
  rw [List.getElem?_eq_getElem h]
  rfl

set_option maxRecDepth 4000 in
set_option maxHeartbeats 4000000 in
theorem l02DrawRow_any (w0 W : World) (b m n : Nat) (sv : Value) (l : List UInt8) (hl : l.length ≤ 1048576) (hm : m ≤ 1000) (hn1 : 1 ≤ n) (hn : n ≤ 16) (hv : SlR w0 sv (byv l)) (h : Src w0 b sv m W) :
    Calls Try.prog 59 #[.pointer (some ⟨b, 0, none⟩), .int .i64 (n : Int)] W fun e w' => (∃ (cs : List Nat) (a : Option Addr) (c : Nat), Cn cs n ∧ e = .returned (.slice a n c) ∧ w'.ownsRow W.heap.size 32 1 (.slice a n c) n ((rowK cs).map (Value.float .f32))) ∧ Src w0 b sv (m + n) w' ∧ W.grownBy w' (some b) := by
  obtain ⟨i0, hi0, hz00, hz01, hz02⟩ := info_parts info_Float32S
  have HCO := Lib.hid (l02DrawCounts_any w0 W b m n sv l hl hm hn1 hn hv h)
  have HTO : Hid (∀ (cs : List Nat) (v : Value) (w : World), Cn cs n → SlR w v (cnV cs) → Calls Try.prog 107 #[v] w fun e w' => e = .returned (.int .i64 ((cs.sum : Nat) : Int)) ∧ w = w') := Lib.hid fun cs v w hc hr => totalC_any n cs v w hc hn1 hn hr
  have hbW : b < W.heap.size := h.2.1
  clear hv h
  have HQU : Hid (∀ s : Nat, s < 129 → 1 ≤ s → ∀ k : Nat, k < 9 → (floatBits .quo .f32 (fw k) (fw s)).isSome = true) := fw_quo9
  have HRS : Hid (∀ (cs : List Nat) (k : Nat), k < cs.length → rwV cs (k + 1) = rwV cs k ++ [.float .f32 (fA .quo .f32 (fw (cs[k]?.getD 0)) (fw cs.sum))]) := fun cs k hk => rwV_succ cs hk
  have HRE : Hid (∀ (cs : List Nat), cs.length = n → rwV cs n = (rowK cs).map (Value.float .f32)) := fun cs hc => by unfold rwV; rw [List.take_of_length_le (by rw [rowK]; simp; omega)]
  have HFO : Hid (∀ x : Nat, floatOfInt .f32 (x : Int) = fw x) := fun _ => rfl
  generalize fw = F at *
  go_enter Try.func59, Try.ntmps59
  go_upto_region 2 with (go_at_call 66; refine HCO.out.mono ?_; rintro e w1 ⟨⟨cs, a1, c1, hcn, rfl, ho1⟩, hs1, hg1⟩)
  have hrd := SlR.own ho1
  have HT1 := Lib.hid (HTO.out cs _ w1 hcn hrd)
  obtain ⟨hs0, hst⟩ := hcn.sum hn1
  have HCN := Lib.hid hcn
  have hF1 := HFO.out cs.sum
  obtain ⟨g1, rfl, hgW, hgl⟩ := own_some ho1 hn1
  have HCL : Hid (∀ k, k < n → w1.cell? ⟨g1, k, none⟩ = some (.int .i64 ((cs[k]?.getD 0 : Nat) : Int))) := Lib.hid fun k hk => by
    have := ho1.cellAt k (by omega)
    rw [this]
    unfold cnV
    rw [List.getElem?_map, List.getElem?_eq_getElem (by rw [HCN.out.len]; exact hk)]
    rfl
  obtain ⟨T, hT⟩ : ∃ T, T = cs.sum := ⟨_, rfl⟩
  have HTT := Lib.hid hT
  rw [← hT] at hs0 hst hF1 HT1
  have hg1s := hg1.size
  have hown0 : (w1.alloc (.cells #[] 32)).ownsRow w1.heap.size 32 1 (.slice (some ⟨w1.heap.size, 0, none⟩) 0 0) 0 [] := World.ownsRow_made w1 #[] 0 (Nat.le_refl _) (Nat.zero_le _) rfl
  have hb0 : Below w1.heap.size w1 (w1.alloc (.cells #[] 32)) := by go_grown
  have HNL := Lib.hid (HRE.out cs HCN.out.len)
  clear hT hrd hcn ho1
  go_wp2_with (go_at_call 107; refine HT1.out.mono ?_; rintro e w' ⟨rfl, rfl⟩)
  have HR0 : Hid (rwV cs 0 = []) := rfl
  rw [← HR0.out] at hown0
  go_loopw [7, 8] (fun v q wr => ∃ k : Nat, k ≤ n ∧ q = .int .i64 (k : Int) ∧ wr.ownsRow w1.heap.size 32 1 v k (rwV cs k) ∧ Below w1.heap.size w1 wr) (fun _ q _ => n - (intOf q).toNat)
  case atStart => exact ⟨0, Nat.zero_le _, rfl, hown0, hb0⟩
  case round =>
    clear hown0 hb0
    obtain ⟨k, hk, rfl, hown, hb⟩ := hrel
    have hbs := hb.size
    by_cases hlt : k < n
    · have hc := (hb.cell (p := ⟨g1, k, none⟩) hgl).trans (HCL.out k hlt)
      have hm := HCN.out.top (cs[k]?.getD 0) (by rw [List.getElem?_eq_getElem (by rw [HCN.out.len]; exact hlt)]; exact List.getElem_mem _)
      have hq := HQU.out T (by omega) hs0 (cs[k]?.getD 0) (by omega)
      have HS := Lib.hid (HRS.out cs k (by rw [HCN.out.len]; exact hlt))
      rw [← HTT.out] at HS
      have hf := HFO.out (cs[k]?.getD 0)
      generalize cs[k]?.getD 0 = x at *
      go_wp2_with (at_builtin; refine wpList_append_own _ rfl _ _ 25 rfl w1.heap.size 32 i0 (.float .f32 0) 1 4 Try.underlying25 hi0 hz00 hz01 hz02 rfl (by decide) u7 _ _ rfl (hown.alloc _) ⟨(World.heap wr).size, 0, none⟩ 1 1 [.float .f32 (fA .quo .f32 (F x) (F T))] rfl rfl (cell_one_new _ _ _) (one_oneCell rfl) (by unfold maxLen; omega) (by omega) (by simp only [World.size_alloc]; have := hb.size; omega) ?_; intro v1 w2 hown2 hgx _; have hb2 := app_below hb (by have := hb.size; omega) _ hgx hown (by omega))
      rw [← HS.out] at hown2
      go_roundw
      case rel => exact ⟨k + 1, by omega, by go_num, hown2, hb2⟩
      case measure => simp [intOf]; omega
    · obtain rfl : k = n := by omega
      obtain ⟨a, c, rfl⟩ := ownsRow_shape hown
      go_wp2
      go_ret
      rw [HNL.out] at hown
      exact ⟨⟨cs, a, c, HCN.out, rfl, ownsRow_base hown hg1s⟩, hs1.below (hb.mono (by omega)), grown_then hg1 (hb.mono hg1s)⟩

set_option maxHeartbeats 1000000 in
theorem R8Row_any (w : World) (sv : Value) (l : List UInt8) (n : Nat) (hl : l.length ≤ 1048576) (hn1 : 1 ≤ n) (hn : n ≤ 16) (hv : SlR w sv (byv l)) :
    Calls Try.prog 10 #[sv, .int .i64 (n : Int)] w fun e w' => (∃ (cs : List Nat) (v : Value), Cn cs n ∧ e = .returned v ∧ SlR w' v ((rowK cs).map (Value.float .f32))) ∧ Below w.heap.size w w' := by
  have HF := Lib.hid (from_any w sv l hv)
  have HC := Lib.hid (fun (W : World) (hs : Src w w.heap.size sv 0 W) => l02DrawRow_any w W w.heap.size 0 n sv l hl (by omega) hn1 hn hv hs)
  obtain ⟨a, k0, c0, rfl, -, -, -, -⟩ := SlR.opened (0 : UInt8) hv
  clear hv
  go_enter Try.func10, Try.ntmps10
  go_wp2_with (first
    | (go_at_call 59; refine (HC.out _ hs).mono ?_; rintro e w2 ⟨⟨ks, a2, c2, hk, rfl, ho⟩, hs2, hg2⟩)
    | (go_at_call 58; refine HF.out.mono ?_; rintro e w1 ⟨rfl, hs, -⟩))
  go_ret
  exact ⟨⟨ks, _, hk, rfl, SlR.own ho⟩, hs2.2.2.1⟩

end Go.Proofs.Ytmocfnpbofeiiaa
