/- Fronts: the contracts of FrontOf and BackOfFront, on both sides. -/
import Derived.Test.YthpajdmiakhhaaaFrt
namespace Go.Proofs.Ythpajdmiakhhaaa
open Go.RowKit

/-- A list has letters, or places, below n. -/
def frOk (xs : List Int) (n : Int) : Bool := inB n 1 16 && decide (xs.length ≤ 512) && xs.all (fun x => inB x 0 (n - 1))
theorem frOk_parts {xs : List Int} {n : Int} (h : frOk xs n = true) : (1 ≤ n ∧ n ≤ 16) ∧ xs.length ≤ 512 ∧ xs.all (fun x => inB x 0 (n - 1)) = true := by
  unfold frOk at h
  simp only [Bool.and_eq_true, decide_eq_true_eq] at h
  exact ⟨inB_true h.1.1, h.1.2, h.2⟩

set_option maxHeartbeats 1000000 in
theorem areFront_any (v : Value) (xs : List Int) (m : Int) (w : World) (hv : SlR w v (xs.map (Value.int .i64))) :
    Calls Try.prog 50 #[v, .int .i64 m] w fun e w' => e = .returned (.bool (frOk xs m)) ∧ w = w' := by
  obtain ⟨a, n, c, rfl, hnl, hnc, hcm, hcell⟩ := SlR.opened 0 hv
  unfold maxLen at hcm
  have hn9 : n ≤ 9223372036854775807 := by omega
  have HV : Hid (frOk xs m = (inB m 1 16 && decide (n ≤ 512) && xs.all (fun x => inB x 0 (m - 1)))) := by
    subst hnl; exact rfl
  clear hnl hcell hcm hnc
  generalize hm : inB m 1 16 = tm at HV
  have HM := Lib.hid hm
  cases tm
  · clear hm
    go_enter Try.func50, Try.ntmps50
    go_wp2_with (go_at_call 57; refine (within_any _ _ _ _).mono ?_; rw [HM.out]; rintro e w' ⟨rfl, rfl⟩)
    go_ret
    exact ⟨ret_bool (by rw [HV.out]; rfl), rfl⟩
  · have hm2 := inB_true hm
    clear hm
    by_cases h2 : n ≤ 512
    · generalize ht : xs.all (fun x => inB x 0 (m - 1)) = t at HV
      have HT := Lib.hid ht
      clear ht
      go_enter Try.func50, Try.ntmps50
      go_wp2_with (first | (go_at_call 57; refine (within_any _ _ _ _).mono ?_; rw [HM.out]; rintro e w' ⟨rfl, rfl⟩) | (go_at_call 38; refine (areWithin_any _ xs 0 (m - 1) _ hv).mono ?_; rw [HT.out]; rintro e w' ⟨rfl, rfl⟩))
      go_ret
      exact ⟨ret_bool (by rw [HV.out]; simp [h2]), rfl⟩
    · have h2' : ¬ ((n : Int) ≤ 512) := by omega
      go_enter Try.func50, Try.ntmps50
      go_wp2_with (go_at_call 57; refine (within_any _ _ _ _).mono ?_; rw [HM.out]; rintro e w' ⟨rfl, rfl⟩)
      go_ret
      exact ⟨ret_bool (by rw [HV.out]; simp; intro _; omega), rfl⟩

set_option maxHeartbeats 1000000 in
theorem l04Below_any (v : Value) (xs : List Int) (m : Int) (w : World) (hv : SlR w v (xs.map (Value.int .i64))) :
    Calls Try.prog 47 #[v, .int .i64 m] w fun e w' => e = .returned (.bool (frOk xs m)) ∧ w = w' := by
  obtain ⟨a, n, c, rfl, hnl, hnc, hcm, hcell⟩ := SlR.opened 0 hv
  unfold maxLen at hcm
  have hn9 : n ≤ 9223372036854775807 := by omega
  have HV : Hid (frOk xs m = (inB m 1 16 && decide (n ≤ 512) && xs.all (fun x => inB x 0 (m - 1)))) := by
    subst hnl; exact rfl
  have HN := Lib.hid hnl
  have HC := Lib.hid hcell
  clear hnl hcell hcm hnc
  generalize hm : inB m 1 16 = tm at HV
  have HM := Lib.hid hm
  cases tm
  · clear hm
    go_enter Try.func47, Try.ntmps47
    go_wp2_with (go_at_call 56; refine (l00In_any _ _ _ _).mono ?_; rw [HM.out]; rintro e w' ⟨rfl, rfl⟩)
    go_ret
    exact ⟨ret_bool (by rw [HV.out]; rfl), rfl⟩
  · have hm2 := inB_true hm
    clear hm
    by_cases h2 : n ≤ 512
    · have h2' : ¬ ((512 : Int) < (n : Int)) := by omega
      go_enter Try.func47, Try.ntmps47
      go_wp2_with (go_at_call 56; refine (l00In_any _ _ _ _).mono ?_; rw [HM.out]; rintro e w' ⟨rfl, rfl⟩)
      go_loop [5] (fun i => ∃ k : Nat, k ≤ n ∧ i = .int .i64 k ∧ (xs.take k).all (fun x => inB x 0 (m - 1)) = true) (fun i => n - (intOf i).toNat)
      case atStart => exact ⟨0, Nat.zero_le _, rfl, rfl⟩
      case round =>
        obtain ⟨k, hk, rfl, hpre⟩ := hrel
        have HP := Lib.hid hpre
        clear hpre
        by_cases hlt : k < n
        · obtain ⟨b, off, rfl, hc, hbl⟩ := HC.out k hlt
          rw [List.getD_eq_getElem?_getD] at hc
          generalize hb : inB (xs[k]?.getD 0) 0 (m - 1) = t
          have HB := Lib.hid hb
          clear hb
          cases t
          · go_wp2_with (go_at_call 56; refine (l00In_any _ _ _ _).mono ?_; rw [HB.out]; rintro e w' ⟨rfl, rfl⟩)
            go_ret
            exact ⟨ret_bool (by rw [HV.out, all_false_of xs _ k 0 (by rw [HN.out]; exact hlt) HB.out]; simp), rfl⟩
          · go_wp2_with (go_at_call 56; refine (l00In_any _ _ _ _).mono ?_; rw [HB.out]; rintro e w' ⟨rfl, rfl⟩)
            go_round
            case rel => exact ⟨k + 1, by omega, by go_num, by rw [all_take_succ xs _ k 0 (by rw [HN.out]; exact hlt), HP.out, HB.out]; rfl⟩
            case measure => simp [intOf]; omega
        · obtain rfl : n = k := by omega
          have HA : Hid (xs.all (fun x => inB x 0 (m - 1)) = true) := by
            have h := HP.out; rw [List.take_of_length_le (by rw [HN.out]; exact Nat.le_refl _)] at h; exact h
          go_wp2
          go_ret
          exact ⟨ret_bool (by rw [HV.out, HA.out]; simp [h2]), rfl⟩
    · have h2' : (512 : Int) < (n : Int) := by omega
      go_enter Try.func47, Try.ntmps47
      go_wp2_with (go_at_call 56; refine (l00In_any _ _ _ _).mono ?_; rw [HM.out]; rintro e w' ⟨rfl, rfl⟩)
      go_ret
      exact ⟨ret_bool (by rw [HV.out]; simp; intro _; omega), rfl⟩

/-- The list and the letters that are told, behind k places. -/
def bkSt (ps : List Int) (n : Nat) : Nat → List Int × List Int
  | 0 => (cnt n, [])
  | k + 1 => (mtf (bkSt ps n k).1 (ps[k]?.getD 0).toNat, (bkSt ps n k).2 ++ [(bkSt ps n k).1[(ps[k]?.getD 0).toNat]?.getD 0])
def out_BackOfFront (ps : List Int) (n : Int) : List Int × Bool := if frOk ps n then ((bkSt ps n.toNat ps.length).2, true) else ([], false)
theorem bkSt_len1 (ps : List Int) (n : Nat) (h : ps.all (fun x => inB x 0 ((n : Int) - 1)) = true) : ∀ k, k ≤ ps.length → (bkSt ps n k).1.length = n
  | 0, _ => cnt_length n
  | k + 1, hk => by
    obtain ⟨h1, h2⟩ := inB_get h (k := k) (by omega)
    have ih := bkSt_len1 ps n h k (by omega)
    rw [bkSt, mtf_length _ _ (by omega), ih]
theorem bkSt_len2 (ps : List Int) (n : Nat) : ∀ k, (bkSt ps n k).2.length = k
  | 0 => rfl
  | k + 1 => by rw [bkSt, List.length_append, bkSt_len2 ps n k]; rfl

set_option maxHeartbeats 400000 in
theorem impl_BackOfFront (w : World) (v : Value) (ps : List Int) (hv : SlR w v (ps.map (Value.int .i64))) (_ : ∀ x ∈ ps, I64 x) (_ : ps.length ≤ 1048576) (m : Int) (_ : I64 m) :
    Calls Try.prog 26 #[v, .int .i64 m] w (RetSl w 2 (out_BackOfFront ps m).1.length ((out_BackOfFront ps m).1.map (Value.int .i64)) (fun v => .tuple #[v, .bool (out_BackOfFront ps m).2])) := by
  obtain ⟨i0, hi0, hz00, hz01, hz02⟩ := info_parts info_Int64S
  generalize ht : frOk ps m = t
  have HT := Lib.hid ht
  cases t
  · rw [show out_BackOfFront ps m = ([], false) by simp [out_BackOfFront, ht]]
    clear ht
    go_enter Try.func26, Try.ntmps26
    go_wp2_with (go_at_call 50; refine (areFront_any _ ps m _ hv).mono ?_; rw [HT.out]; rintro e w' ⟨rfl, rfl⟩)
    go_ret2
    exact RetSl.of (f := fun v => .tuple #[v, .bool false]) (World.ownsRow_nil _ _ _ _) (Below.refl _ _)
  · rw [show out_BackOfFront ps m = ((bkSt ps m.toNat ps.length).2, true) by simp [out_BackOfFront, ht]]
    obtain ⟨⟨hm1, hm2⟩, hp1, hp2⟩ := frOk_parts ht
    obtain ⟨n, rfl⟩ : ∃ n : Nat, m = n := ⟨m.toNat, by omega⟩
    rw [Int.toNat_natCast]
    obtain ⟨a, N, c, rfl, hnl, hnc, hcm, hcell⟩ := SlR.opened 0 hv
    rw [bkSt_len2, hnl]
    have hN : N ≤ 512 := by omega
    have HN := Lib.hid hnl
    have HC := Lib.hid hcell
    have HP := Lib.hid hp2
    clear ht hp1 hp2 hnl hcell hcm hnc
    go_enter Try.func26, Try.ntmps26
    go_wp2_with (first | (go_at_call 50; refine (areFront_any _ ps n _ hv).mono ?_; rw [HT.out]; rintro e w' ⟨rfl, rfl⟩) | (go_at_call 51; refine (counting_any n _ (by omega)).mono ?_; rintro e w1 ⟨aL, cL, rfl, hL, hb1⟩; obtain ⟨g, rfl, hgB, hgl⟩ := own_some hL (by omega)))
    have hO0 : (w1.alloc (.cells #[] 2)).ownsRow (g + 1) 2 1 (.slice (some ⟨w1.heap.size, 0, none⟩) 0 0) 0 [] := World.ownsRow_made w1 #[] 0 (by omega) (Nat.zero_le _) rfl
    go_loopw [7, 19] (fun o i wr => ∃ k : Nat, k ≤ N ∧ i = .int .i64 k ∧ wr.ownsRow w.heap.size 2 1 (.slice (some ⟨g, 0, none⟩) n cL) n ((bkSt ps n k).1.map (Value.int .i64)) ∧ wr.ownsRow (g + 1) 2 1 o k ((bkSt ps n k).2.map (Value.int .i64)) ∧ Below w.heap.size w wr ∧ g < wr.heap.size) (fun _ i _ => N - (intOf i).toNat)
    case atStart => exact ⟨0, Nat.zero_le _, rfl, hL.alloc _, hO0, hb1.alloc hb1.size _, by simp; omega⟩
    case round =>
      clear hL hO0 hb1 hgl
      obtain ⟨k, hk, rfl, hL, hO, hb, hgl⟩ := hrel
      have hbs := hb.size
      by_cases hlt : k < N
      · obtain ⟨b, off, rfl, hc0, hbl⟩ := HC.out k hlt
        rw [List.getD_eq_getElem?_getD] at hc0
        have hc := (hb.cell (p := ⟨b, off + k, none⟩) hbl).trans hc0
        obtain ⟨x1, x2⟩ := inB_get HP.out (k := k) (by rw [HN.out]; exact hlt)
        have HL1 : Hid ((bkSt ps n k).1.length = n) := bkSt_len1 ps n HP.out k (by rw [HN.out]; exact hk)
        have HS : Hid (bkSt ps n (k + 1) = (mtf (bkSt ps n k).1 (ps[k]?.getD 0).toNat, (bkSt ps n k).2 ++ [(bkSt ps n k).1[(ps[k]?.getD 0).toNat]?.getD 0])) := rfl
        generalize ps[k]?.getD 0 = p at *
        obtain ⟨j, rfl⟩ : ∃ j : Nat, p = j := ⟨p.toNat, by omega⟩
        have hjn : j < n := by omega
        clear hc0
        go_wp2_with (first | (go_at_call 52; refine (toFront_any g n cL j _ _ _ hjn (by omega) hL).mono ?_; rintro e w2 ⟨rfl, hL2, hg2⟩; have hO2 := out_keep hO hg2; have hb2 := hb.grown hg2 hbs (fun q hq => by cases hq; exact hgB); have hgl2 := Nat.lt_of_lt_of_le hgl hg2.size) | (at_builtin; refine wpList_append_own _ rfl _ _ 22 rfl (g + 1) 2 i0 (.int .i64 0) 1 8 Try.underlying22 hi0 hz00 hz01 hz02 rfl (by decide) u7 _ _ rfl (hO2.alloc _) ⟨(World.heap w2).size, 0, none⟩ 1 1 [.int .i64 ((bkSt ps n k).1[j]?.getD 0)] rfl rfl (cell_one_new _ _ _) (one_oneCell rfl) (by unfold maxLen; omega) (by omega) (by simp only [World.size_alloc]; have := hb2.size; omega) ?_; intro v1 w3 hO3 hgx _; have hb3 := app_below hb2 (by have := hb2.size; omega) _ hgx hO2 (by omega)))
        go_roundw
        case rel =>
          refine ⟨k + 1, by omega, by go_num, ?_, ?_, hb3, by have := hgx.size; simp only [World.size_alloc] at this; omega⟩
          · rw [HS.out, Int.toNat_natCast]; exact list_keep hL2 _ hgx hO2
          · rw [HS.out, Int.toNat_natCast, List.map_append]; exact hO3
        case measure => simp [intOf]; omega
      · obtain rfl : N = k := by omega
        go_wp2
        go_ret2
        exact RetSl.of (f := fun v => .tuple #[v, .bool true]) (ownsRow_base hO (by omega)) hb

set_option maxHeartbeats 400000 in
theorem spec_BackOfFront (w : World) (v : Value) (ps : List Int) (hv : SlR w v (ps.map (Value.int .i64))) (_ : ∀ x ∈ ps, I64 x) (_ : ps.length ≤ 1048576) (m : Int) (_ : I64 m) :
    Calls Try.prog 24 #[v, .int .i64 m] w (RetRd w (out_BackOfFront ps m).1.length ((out_BackOfFront ps m).1.map (Value.int .i64)) (fun v => .tuple #[v, .bool (out_BackOfFront ps m).2])) := by
  refine Calls.mono (R := RetSl w 2 (out_BackOfFront ps m).1.length ((out_BackOfFront ps m).1.map (Value.int .i64)) (fun v => .tuple #[v, .bool (out_BackOfFront ps m).2])) ?_ (fun e w' h => RetSl.rd h)
  obtain ⟨i0, hi0, hz00, hz01, hz02⟩ := info_parts info_Int64S
  generalize ht : frOk ps m = t
  have HT := Lib.hid ht
  cases t
  · rw [show out_BackOfFront ps m = ([], false) by simp [out_BackOfFront, ht]]
    clear ht
    go_enter Try.func24, Try.ntmps24
    go_wp2_with (go_at_call 47; refine (l04Below_any _ ps m _ hv).mono ?_; rw [HT.out]; rintro e w' ⟨rfl, rfl⟩)
    go_ret2
    exact RetSl.of (f := fun v => .tuple #[v, .bool false]) (World.ownsRow_nil _ _ _ _) (Below.refl _ _)
  · rw [show out_BackOfFront ps m = ((bkSt ps m.toNat ps.length).2, true) by simp [out_BackOfFront, ht]]
    obtain ⟨⟨hm1, hm2⟩, hp1, hp2⟩ := frOk_parts ht
    obtain ⟨n, rfl⟩ : ∃ n : Nat, m = n := ⟨m.toNat, by omega⟩
    rw [Int.toNat_natCast]
    obtain ⟨a, N, c, rfl, hnl, hnc, hcm, hcell⟩ := SlR.opened 0 hv
    rw [bkSt_len2, hnl]
    have hN : N ≤ 512 := by omega
    have HN := Lib.hid hnl
    have HC := Lib.hid hcell
    have HP := Lib.hid hp2
    clear ht hp1 hp2 hnl hcell hcm hnc
    go_enter Try.func24, Try.ntmps24
    go_wp2_with (first | (go_at_call 47; refine (l04Below_any _ ps n _ hv).mono ?_; rw [HT.out]; rintro e w' ⟨rfl, rfl⟩) | (go_at_call 48; refine (l04Order_any n _ (by omega)).mono ?_; rintro e w1 ⟨aL, cL, rfl, hL, hb1⟩; obtain ⟨g, rfl, hgB, hgl⟩ := own_some hL (by omega)))
    have hO0 : (w1.alloc (.cells #[] 2)).ownsRow (g + 1) 2 1 (.slice (some ⟨w1.heap.size, 0, none⟩) 0 0) 0 [] := World.ownsRow_made w1 #[] 0 (by omega) (Nat.zero_le _) rfl
    go_loopw [7, 8] (fun o i wr => ∃ k : Nat, k ≤ N ∧ i = .int .i64 k ∧ wr.ownsRow w.heap.size 2 1 (.slice (some ⟨g, 0, none⟩) n cL) n ((bkSt ps n k).1.map (Value.int .i64)) ∧ wr.ownsRow (g + 1) 2 1 o k ((bkSt ps n k).2.map (Value.int .i64)) ∧ Below w.heap.size w wr ∧ g < wr.heap.size) (fun _ i _ => N - (intOf i).toNat)
    case atStart => exact ⟨0, Nat.zero_le _, rfl, hL.alloc _, hO0, hb1.alloc hb1.size _, by simp; omega⟩
    case round =>
      clear hL hO0 hb1 hgl
      obtain ⟨k, hk, rfl, hL, hO, hb, hgl⟩ := hrel
      have hbs := hb.size
      by_cases hlt : k < N
      · obtain ⟨b, off, rfl, hc0, hbl⟩ := HC.out k hlt
        rw [List.getD_eq_getElem?_getD] at hc0
        have hc := (hb.cell (p := ⟨b, off + k, none⟩) hbl).trans hc0
        obtain ⟨x1, x2⟩ := inB_get HP.out (k := k) (by rw [HN.out]; exact hlt)
        have HL1 : Hid ((bkSt ps n k).1.length = n) := bkSt_len1 ps n HP.out k (by rw [HN.out]; exact hk)
        have HS : Hid (bkSt ps n (k + 1) = (mtf (bkSt ps n k).1 (ps[k]?.getD 0).toNat, (bkSt ps n k).2 ++ [(bkSt ps n k).1[(ps[k]?.getD 0).toNat]?.getD 0])) := rfl
        generalize ps[k]?.getD 0 = p at *
        obtain ⟨j, rfl⟩ : ∃ j : Nat, p = j := ⟨p.toNat, by omega⟩
        have hjn : j < n := by omega
        have HC0 := Lib.hid hc0
        clear hc0
        have hcL := hL.cellAt j (by omega)
        rw [show ((bkSt ps n k).1.map (Value.int .i64))[j]? = some (Value.int .i64 ((bkSt ps n k).1[j]?.getD 0)) by rw [List.getElem?_map, List.getElem?_eq_getElem (by rw [HL1.out]; exact hjn)]; rfl] at hcL
        generalize hy : (bkSt ps n k).1[j]?.getD 0 = y at *
        have HY := Lib.hid hy
        clear hy
        go_wp2_with (first | (at_builtin; refine wpList_append_own _ rfl _ _ 22 rfl (g + 1) 2 i0 (.int .i64 0) 1 8 Try.underlying22 hi0 hz00 hz01 hz02 rfl (by decide) u7 _ _ rfl (hO.alloc _) ⟨(World.heap wr).size, 0, none⟩ 1 1 [.int .i64 y] rfl rfl (cell_one_new _ _ _) (one_oneCell rfl) (by unfold maxLen; omega) (by omega) (by simp only [World.size_alloc]; have := hb.size; omega) ?_; intro v1 w2 hO2 hgx _; have hb2 := app_below hb (by have := hb.size; omega) _ hgx hO (by omega)); have hL2 := list_keep hL _ hgx hO; have hcx := (hb2.cell (p := ⟨b, off + k, none⟩) hbl).trans HC0.out; have hgl2 := hgx.size; simp only [World.size_alloc] at hgl2 | (go_at_call 49; refine (l04Front_any g n cL j _ _ _ hjn (by omega) hL2).mono ?_; rintro e w3 ⟨rfl, hL3, hg3⟩))
        go_roundw
        case rel =>
          refine ⟨k + 1, by omega, by go_num, ?_, ?_, hb2.grown hg3 hb2.size (fun q hq => by cases hq; exact hgB), by have := hg3.size; omega⟩
          · rw [HS.out, Int.toNat_natCast]; exact hL3
          · rw [HS.out, Int.toNat_natCast, HY.out, List.map_append]; exact out_keep hO2 hg3
        case measure => simp [intOf]; omega
      · obtain rfl : N = k := by omega
        go_wp2
        go_ret2
        exact RetSl.of (f := fun v => .tuple #[v, .bool true]) (ownsRow_base hO (by omega)) hb

theorem idx_facts {xs : List Int} {x : Int} (h : x ∈ xs) : xs.idxOf x < xs.length ∧ xs[xs.idxOf x]?.getD 0 = x ∧ ∀ j, j < xs.idxOf x → xs[j]?.getD 0 ≠ x := by
  have h1 : xs.idxOf x < xs.length := List.idxOf_lt_length_of_mem h
  refine ⟨h1, ?_, fun j hj he => ?_⟩
  · rw [List.getElem?_eq_getElem h1]; exact List.getElem_idxOf h1
  · rw [List.getElem?_eq_getElem (by omega)] at he
    have h2 : (xs[j] == x) = false := List.not_of_lt_findIdx hj
    simp at h2 he
    exact h2 he

set_option maxHeartbeats 400000 in
theorem slIndex_any (v : Value) (xs : List Int) (x : Int) (w : World) (hv : SlR w v (xs.map (Value.int .i64))) (hx : x ∈ xs) :
    Calls Try.prog 55 #[v, .int .i64 x] w fun e w' => e = .returned (.int .i64 (xs.idxOf x)) ∧ w = w' := by
  obtain ⟨a, n, c, rfl, hnl, hnc, hcm, hcell⟩ := SlR.opened 0 hv
  unfold maxLen at hcm
  have hn9 : n ≤ 9223372036854775807 := by omega
  obtain ⟨f1, f2, f3⟩ := idx_facts hx
  generalize hq : xs.idxOf x = q at *
  have hqn : q < n := by omega
  have F2 := Lib.hid f2
  have F3 := Lib.hid f3
  have HC := Lib.hid hcell
  clear hnl hcell hcm hnc hv hx f1 f2 f3 hq
  go_enter Try.func55, Try.ntmps55
  go_wp2
  go_loop [8] (fun i => ∃ k : Nat, k ≤ q ∧ i = .int .i64 k) (fun i => n - (intOf i).toNat)
  case atStart => exact ⟨0, Nat.zero_le _, rfl⟩
  case round =>
    obtain ⟨k, hk, rfl⟩ := hrel
    have hlt : k < n := by omega
    obtain ⟨b, off, rfl, hc, hbl⟩ := HC.out k hlt
    rw [List.getD_eq_getElem?_getD] at hc
    by_cases hkq : k = q
    · have ht : (x == (xs[k]?.getD 0)) = true := by rw [hkq, F2.out]; simp
      have HQ := Lib.hid hkq
      clear hkq
      generalize xs[k]?.getD 0 = y at *
      go_wp2
      go_ret
      exact ⟨ret_int (by rw [HQ.out]), rfl⟩
    · have ht : (x == (xs[k]?.getD 0)) = false := by
        have := F3.out k (by omega)
        rw [beq_eq_false_iff_ne]; exact fun h => this h.symm
      generalize xs[k]?.getD 0 = y at *
      go_wp2
      go_round
      case rel => exact ⟨k + 1, by omega, by go_num⟩
      case measure => simp [intOf]; omega

/-- The list and the places that are told, behind k letters. -/
def frSt (ls : List Int) (n : Nat) : Nat → List Int × List Int
  | 0 => (cnt n, [])
  | k + 1 => (mtf (frSt ls n k).1 ((frSt ls n k).1.idxOf (ls[k]?.getD 0)), (frSt ls n k).2 ++ [((frSt ls n k).1.idxOf (ls[k]?.getD 0) : Int)])
def out_FrontOf (ls : List Int) (n : Int) : List Int × Bool := if frOk ls n then ((frSt ls n.toNat ls.length).2, true) else ([], false)
theorem mem_mtf {xs : List Int} {k : Nat} {x : Int} (hk : k < xs.length) (h : x ∈ xs) : x ∈ mtf xs k := by
  obtain ⟨i, hi, rfl⟩ := List.mem_iff_getElem.1 h
  unfold mtf
  rw [List.mem_cons, List.mem_append]
  rcases Nat.lt_trichotomy i k with h1 | h1 | h1
  · exact .inr (.inl (List.mem_iff_getElem.2 ⟨i, by simp; omega, by simp⟩))
  · subst h1; exact .inl (by simp [List.getElem?_eq_getElem hi])
  · exact .inr (.inr (List.mem_iff_getElem.2 ⟨i - (k + 1), by simp; omega, by simp; congr 1; omega⟩))
theorem frSt_ok (ls : List Int) (n : Nat) (h : ls.all (fun x => inB x 0 ((n : Int) - 1)) = true) : ∀ k, k ≤ ls.length → (frSt ls n k).1.length = n ∧ ∀ x : Int, 0 ≤ x → x < n → x ∈ (frSt ls n k).1
  | 0, _ => ⟨cnt_length n, fun x h0 h1 => by
      show x ∈ cnt n
      unfold cnt
      exact List.mem_map.2 ⟨x.toNat, List.mem_range.2 (by omega), by omega⟩⟩
  | k + 1, hk => by
    obtain ⟨h1, h2⟩ := inB_get h (k := k) (by omega)
    obtain ⟨i1, i2⟩ := frSt_ok ls n h k (by omega)
    have hm := i2 (ls[k]?.getD 0) h1 (by omega)
    have hl := List.idxOf_lt_length_of_mem hm
    exact ⟨by rw [frSt, mtf_length _ _ hl, i1], fun x a b => mem_mtf hl (i2 x a b)⟩
theorem frSt_len2 (ls : List Int) (n : Nat) : ∀ k, (frSt ls n k).2.length = k
  | 0 => rfl
  | k + 1 => by rw [frSt, List.length_append, frSt_len2 ls n k]; rfl

set_option maxHeartbeats 400000 in
theorem impl_FrontOf (w : World) (v : Value) (ls : List Int) (hv : SlR w v (ls.map (Value.int .i64))) (_ : ∀ x ∈ ls, I64 x) (_ : ls.length ≤ 1048576) (m : Int) (_ : I64 m) :
    Calls Try.prog 33 #[v, .int .i64 m] w (RetSl w 2 (out_FrontOf ls m).1.length ((out_FrontOf ls m).1.map (Value.int .i64)) (fun v => .tuple #[v, .bool (out_FrontOf ls m).2])) := by
  obtain ⟨i0, hi0, hz00, hz01, hz02⟩ := info_parts info_Int64S
  generalize ht : frOk ls m = t
  have HT := Lib.hid ht
  cases t
  · rw [show out_FrontOf ls m = ([], false) by simp [out_FrontOf, ht]]
    clear ht
    go_enter Try.func33, Try.ntmps33
    go_wp2_with (go_at_call 50; refine (areFront_any _ ls m _ hv).mono ?_; rw [HT.out]; rintro e w' ⟨rfl, rfl⟩)
    go_ret2
    exact RetSl.of (f := fun v => .tuple #[v, .bool false]) (World.ownsRow_nil _ _ _ _) (Below.refl _ _)
  · rw [show out_FrontOf ls m = ((frSt ls m.toNat ls.length).2, true) by simp [out_FrontOf, ht]]
    obtain ⟨⟨hm1, hm2⟩, hp1, hp2⟩ := frOk_parts ht
    obtain ⟨n, rfl⟩ : ∃ n : Nat, m = n := ⟨m.toNat, by omega⟩
    rw [Int.toNat_natCast]
    obtain ⟨a, N, c, rfl, hnl, hnc, hcm, hcell⟩ := SlR.opened 0 hv
    rw [frSt_len2, hnl]
    have hN : N ≤ 512 := by omega
    have HN := Lib.hid hnl
    have HC := Lib.hid hcell
    have HP := Lib.hid hp2
    clear ht hp1 hp2 hnl hcell hcm hnc
    go_enter Try.func33, Try.ntmps33
    go_wp2_with (first | (go_at_call 50; refine (areFront_any _ ls n _ hv).mono ?_; rw [HT.out]; rintro e w' ⟨rfl, rfl⟩) | (go_at_call 51; refine (counting_any n _ (by omega)).mono ?_; rintro e w1 ⟨aL, cL, rfl, hL, hb1⟩; obtain ⟨g, rfl, hgB, hgl⟩ := own_some hL (by omega)))
    have hO0 : (w1.alloc (.cells #[] 2)).ownsRow (g + 1) 2 1 (.slice (some ⟨w1.heap.size, 0, none⟩) 0 0) 0 [] := World.ownsRow_made w1 #[] 0 (by omega) (Nat.zero_le _) rfl
    go_loopw [7, 20] (fun o i wr => ∃ k : Nat, k ≤ N ∧ i = .int .i64 k ∧ wr.ownsRow w.heap.size 2 1 (.slice (some ⟨g, 0, none⟩) n cL) n ((frSt ls n k).1.map (Value.int .i64)) ∧ wr.ownsRow (g + 1) 2 1 o k ((frSt ls n k).2.map (Value.int .i64)) ∧ Below w.heap.size w wr ∧ g < wr.heap.size) (fun _ i _ => N - (intOf i).toNat)
    case atStart => exact ⟨0, Nat.zero_le _, rfl, hL.alloc _, hO0, hb1.alloc hb1.size _, by simp; omega⟩
    case round =>
      clear hL hO0 hb1 hgl
      obtain ⟨k, hk, rfl, hL, hO, hb, hgl⟩ := hrel
      have hbs := hb.size
      by_cases hlt : k < N
      · obtain ⟨b, off, rfl, hc0, hbl⟩ := HC.out k hlt
        rw [List.getD_eq_getElem?_getD] at hc0
        have hc := (hb.cell (p := ⟨b, off + k, none⟩) hbl).trans hc0
        obtain ⟨x1, x2⟩ := inB_get HP.out (k := k) (by rw [HN.out]; exact hlt)
        obtain ⟨hl1, hmem⟩ := frSt_ok ls n HP.out k (by rw [HN.out]; exact hk)
        have hm := hmem (ls[k]?.getD 0) x1 (by omega)
        have hjn := List.idxOf_lt_length_of_mem hm
        rw [hl1] at hjn
        have HM := Lib.hid hm
        have HS : Hid (frSt ls n (k + 1) = (mtf (frSt ls n k).1 ((frSt ls n k).1.idxOf (ls[k]?.getD 0)), (frSt ls n k).2 ++ [((frSt ls n k).1.idxOf (ls[k]?.getD 0) : Int)])) := rfl
        generalize ls[k]?.getD 0 = p at *
        generalize hj : (frSt ls n k).1.idxOf p = j at *
        have HJ := Lib.hid hj
        have hsL := SlR.own hL
        clear hc0 hj hm hmem hl1
        go_wp2_with (first | (go_at_call 55; refine (slIndex_any _ _ p _ hsL HM.out).mono ?_; rw [HJ.out]; rintro e w' ⟨rfl, rfl⟩) | (go_at_call 52; refine (toFront_any g n cL j _ _ _ hjn (by omega) hL).mono ?_; rintro e w2 ⟨rfl, hL2, hg2⟩; have hO2 := out_keep hO hg2; have hb2 := hb.grown hg2 hbs (fun q hq => by cases hq; exact hgB); have hgl2 := Nat.lt_of_lt_of_le hgl hg2.size) | (at_builtin; refine wpList_append_own _ rfl _ _ 22 rfl (g + 1) 2 i0 (.int .i64 0) 1 8 Try.underlying22 hi0 hz00 hz01 hz02 rfl (by decide) u7 _ _ rfl (hO2.alloc _) ⟨(World.heap w2).size, 0, none⟩ 1 1 [.int .i64 j] rfl rfl (cell_one_new _ _ _) (one_oneCell rfl) (by unfold maxLen; omega) (by omega) (by simp only [World.size_alloc]; have := hb2.size; omega) ?_; intro v1 w3 hO3 hgx _; have hb3 := app_below hb2 (by have := hb2.size; omega) _ hgx hO2 (by omega)))
        go_roundw
        case rel =>
          refine ⟨k + 1, by omega, by go_num, ?_, ?_, hb3, by have := hgx.size; simp only [World.size_alloc] at this; omega⟩
          · rw [HS.out]; exact list_keep hL2 _ hgx hO2
          · rw [HS.out, List.map_append]; exact hO3
        case measure => simp [intOf]; omega
      · obtain rfl : N = k := by omega
        go_wp2
        go_ret2
        exact RetSl.of (f := fun v => .tuple #[v, .bool true]) (ownsRow_base hO (by omega)) hb

set_option maxHeartbeats 400000 in
theorem spec_FrontOf (w : World) (v : Value) (ls : List Int) (hv : SlR w v (ls.map (Value.int .i64))) (_ : ∀ x ∈ ls, I64 x) (_ : ls.length ≤ 1048576) (m : Int) (_ : I64 m) :
    Calls Try.prog 32 #[v, .int .i64 m] w (RetRd w (out_FrontOf ls m).1.length ((out_FrontOf ls m).1.map (Value.int .i64)) (fun v => .tuple #[v, .bool (out_FrontOf ls m).2])) := by
  refine Calls.mono (R := RetSl w 2 (out_FrontOf ls m).1.length ((out_FrontOf ls m).1.map (Value.int .i64)) (fun v => .tuple #[v, .bool (out_FrontOf ls m).2])) ?_ (fun e w' h => RetSl.rd h)
  obtain ⟨i0, hi0, hz00, hz01, hz02⟩ := info_parts info_Int64S
  generalize ht : frOk ls m = t
  have HT := Lib.hid ht
  cases t
  · rw [show out_FrontOf ls m = ([], false) by simp [out_FrontOf, ht]]
    clear ht
    go_enter Try.func32, Try.ntmps32
    go_wp2_with (go_at_call 47; refine (l04Below_any _ ls m _ hv).mono ?_; rw [HT.out]; rintro e w' ⟨rfl, rfl⟩)
    go_ret2
    exact RetSl.of (f := fun v => .tuple #[v, .bool false]) (World.ownsRow_nil _ _ _ _) (Below.refl _ _)
  · rw [show out_FrontOf ls m = ((frSt ls m.toNat ls.length).2, true) by simp [out_FrontOf, ht]]
    obtain ⟨⟨hm1, hm2⟩, hp1, hp2⟩ := frOk_parts ht
    obtain ⟨n, rfl⟩ : ∃ n : Nat, m = n := ⟨m.toNat, by omega⟩
    rw [Int.toNat_natCast]
    obtain ⟨a, N, c, rfl, hnl, hnc, hcm, hcell⟩ := SlR.opened 0 hv
    rw [frSt_len2, hnl]
    have hN : N ≤ 512 := by omega
    have HN := Lib.hid hnl
    have HC := Lib.hid hcell
    have HP := Lib.hid hp2
    clear ht hp1 hp2 hnl hcell hcm hnc
    go_enter Try.func32, Try.ntmps32
    go_wp2_with (first | (go_at_call 47; refine (l04Below_any _ ls n _ hv).mono ?_; rw [HT.out]; rintro e w' ⟨rfl, rfl⟩) | (go_at_call 48; refine (l04Order_any n _ (by omega)).mono ?_; rintro e w1 ⟨aL, cL, rfl, hL, hb1⟩; obtain ⟨g, rfl, hgB, hgl⟩ := own_some hL (by omega)))
    have hO0 : (w1.alloc (.cells #[] 2)).ownsRow (g + 1) 2 1 (.slice (some ⟨w1.heap.size, 0, none⟩) 0 0) 0 [] := World.ownsRow_made w1 #[] 0 (by omega) (Nat.zero_le _) rfl
    go_loopw [7, 8] (fun o i wr => ∃ k : Nat, k ≤ N ∧ i = .int .i64 k ∧ wr.ownsRow w.heap.size 2 1 (.slice (some ⟨g, 0, none⟩) n cL) n ((frSt ls n k).1.map (Value.int .i64)) ∧ wr.ownsRow (g + 1) 2 1 o k ((frSt ls n k).2.map (Value.int .i64)) ∧ Below w.heap.size w wr ∧ g < wr.heap.size) (fun _ i _ => N - (intOf i).toNat)
    case atStart => exact ⟨0, Nat.zero_le _, rfl, hL.alloc _, hO0, hb1.alloc hb1.size _, by simp; omega⟩
    case round =>
      clear hL hO0 hb1 hgl
      obtain ⟨k, hk, rfl, hL, hO, hb, hgl⟩ := hrel
      have hbs := hb.size
      by_cases hlt : k < N
      · obtain ⟨b, off, rfl, hc0, hbl⟩ := HC.out k hlt
        rw [List.getD_eq_getElem?_getD] at hc0
        have hc := (hb.cell (p := ⟨b, off + k, none⟩) hbl).trans hc0
        obtain ⟨x1, x2⟩ := inB_get HP.out (k := k) (by rw [HN.out]; exact hlt)
        obtain ⟨hl1, hmem⟩ := frSt_ok ls n HP.out k (by rw [HN.out]; exact hk)
        have hm := hmem (ls[k]?.getD 0) x1 (by omega)
        have hjn := List.idxOf_lt_length_of_mem hm
        rw [hl1] at hjn
        have HM := Lib.hid hm
        have HS : Hid (frSt ls n (k + 1) = (mtf (frSt ls n k).1 ((frSt ls n k).1.idxOf (ls[k]?.getD 0)), (frSt ls n k).2 ++ [((frSt ls n k).1.idxOf (ls[k]?.getD 0) : Int)])) := rfl
        have HF : Hid ((frSt ls n k).1[(frSt ls n k).1.idxOf (ls[k]?.getD 0)]?.getD 0 = ls[k]?.getD 0 ∧ ∀ q, q < (frSt ls n k).1.idxOf (ls[k]?.getD 0) → (frSt ls n k).1[q]?.getD 0 ≠ ls[k]?.getD 0) := (idx_facts hm).2
        have HL1 := Lib.hid hl1
        generalize ls[k]?.getD 0 = p at *
        generalize hj : (frSt ls n k).1.idxOf p = j at *
        have HC0 := Lib.hid hc0
        clear hc0 hj hm hmem hl1
        obtain ⟨wo, rfl⟩ : ∃ wo : World, wo = wr := ⟨_, rfl⟩
        go_wp2
        go_loopw [9] (fun i wi => ∃ q : Nat, q ≤ j ∧ i = .int .i64 q ∧ Qu wo wi) (fun i _ => n - (intOf i).toNat)
        case atStart => exact ⟨0, Nat.zero_le _, rfl, Qu.refl _⟩
        case round =>
          obtain ⟨q, hq, rfl, m, rfl⟩ := hrel
          have hqL := hL.cellAt q (by omega)
          rw [show ((frSt ls n k).1.map (Value.int .i64))[q]? = some (Value.int .i64 ((frSt ls n k).1[q]?.getD 0)) by rw [List.getElem?_map, List.getElem?_eq_getElem (by rw [HL1.out]; omega)]; rfl] at hqL
          by_cases hqj : q = j
          · have htest : ((frSt ls n k).1[q]?.getD 0 != p) = false := by rw [hqj, HF.out.1]; simp
            have HQ := Lib.hid hqj
            generalize (frSt ls n k).1[q]?.getD 0 = y at *
            clear hqj
            go_wp2
            go_quiet (fail)
            have hq4 : Qu wo ((wo.drewN m).drewN nq) := Qu.drewN ⟨m, rfl⟩ nq
            generalize (wo.drewN m).drewN nq = w4 at *
            have hL4 := ownsRow_below hL hq4.keep
            have hO4 := ownsRow_below hO hq4.keep
            have hb4 := hb.trans (hq4.below _)
            have hbs4 := hb4.size
            have hgl4 := Nat.lt_of_lt_of_le hgl hq4.keep.size
            go_wp2_with (first | (at_builtin; refine wpList_append_own _ rfl _ _ 22 rfl (g + 1) 2 i0 (.int .i64 0) 1 8 Try.underlying22 hi0 hz00 hz01 hz02 rfl (by decide) u7 _ _ rfl (hO4.alloc _) ⟨(World.heap w4).size, 0, none⟩ 1 1 [.int .i64 q] rfl rfl (cell_one_new _ _ _) (one_oneCell rfl) (by unfold maxLen; omega) (by omega) (by simp only [World.size_alloc]; have := hb4.size; omega) ?_; intro v1 w5 hO5 hgx _; have hb5 := app_below hb4 (by have := hb4.size; omega) _ hgx hO4 (by omega)); have hL5 := list_keep hL4 _ hgx hO4; have hgl5 := hgx.size; simp only [World.size_alloc] at hgl5 | (go_at_call 49; refine (l04Front_any g n cL q _ _ _ (by omega) (by omega) hL5).mono ?_; rintro e w6 ⟨rfl, hL6, hg6⟩))
            go_roundw
            case rel =>
              refine ⟨k + 1, by omega, by go_num, ?_, ?_, hb5.grown hg6 hb5.size (fun q hq => by cases hq; exact hgB), by have := hg6.size; omega⟩
              · rw [HS.out, ← HQ.out]; exact hL6
              · rw [HS.out, ← HQ.out, List.map_append]; exact out_keep hO5 hg6
            case measure => simp [intOf]; omega
          · have htest : ((frSt ls n k).1[q]?.getD 0 != p) = true := by rw [bne_iff_ne]; exact HF.out.2 q (by omega)
            generalize (frSt ls n k).1[q]?.getD 0 = y at *
            go_wp2
            go_quiet (fail)
            go_wp2
            go_roundw
            case rel => exact ⟨q + 1, by omega, by go_num, _, rfl⟩
            case measure => simp [intOf]; omega
      · obtain rfl : N = k := by omega
        go_wp2
        go_ret2
        exact RetSl.of (f := fun v => .tuple #[v, .bool true]) (ownsRow_base hO (by omega)) hb

theorem len_FrontOf (ls : List Int) (_ : ∀ x ∈ ls, I64 x) (_ : ls.length ≤ 1048576) (m : Int) (_ : I64 m) : (out_FrontOf ls m).1.length ≤ 1048576 := by
  unfold out_FrontOf
  split
  · show (frSt ls m.toNat ls.length).2.length ≤ _
    rw [frSt_len2]; assumption
  · exact Nat.zero_le _

theorem len_BackOfFront (ls : List Int) (_ : ∀ x ∈ ls, I64 x) (_ : ls.length ≤ 1048576) (m : Int) (_ : I64 m) : (out_BackOfFront ls m).1.length ≤ 1048576 := by
  unfold out_BackOfFront
  split
  · show (bkSt ls m.toNat ls.length).2.length ≤ _
    rw [bkSt_len2]; assumption
  · exact Nat.zero_le _

end Go.Proofs.Ythpajdmiakhhaaa
