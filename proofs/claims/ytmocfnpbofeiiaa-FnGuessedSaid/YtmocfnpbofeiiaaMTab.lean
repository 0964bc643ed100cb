/- Tables: valid ones, the sums of their rows. -/
import Derived.Test.YtmocfnpbofeiiaaMVld
import Derived.Test.YtmocfnpbofeiiaaMHrf
namespace Go.Proofs.Ytmocfnpbofeiiaa
set_option linter.unusedSimpArgs false
set_option linter.unusedVariables false
open Go.RowKit


set_option maxHeartbeats 2000000 in
theorem implValidTable_any (i j : Int) (v : Value) (xs : List Nat) (w : World) (hv : SlR w v (xs.map (Value.float .f32))) (hw : ∀ x ∈ xs, x < 4294967296) :
    Calls Try.prog 34 #[.agg #[.int .i64 i, .int .i64 j, v]] w fun e w' => e = .returned (.bool (validTb i j xs)) ∧ Below w.heap.size w w' := by
  have HW := Lib.hid hw
  have hb0 : Below w.heap.size w (w.alloc (.cells #[.int .i64 i, .int .i64 j, v] 47)) := by go_grown
  have hv1 := hv.below hb0
  clear hw
  cases h1 : inB i 1 8
  · have HV : Hid (validTb i j xs = false) := by show validTb i j xs = _; unfold validTb; rw [h1]; rfl
    have H1 := Lib.hid h1
    clear h1
    go_enter Try.func34, Try.ntmps34
    go_wp2_with (go_at_call 60; refine (within_any _ _ _ _).mono ?_; rw [H1.out]; rintro e w' ⟨rfl, rfl⟩)
    go_ret
    exact ⟨ret_bool HV.out.symm, hb0⟩
  · cases h2 : inB j 1 8
    · have HV : Hid (validTb i j xs = false) := by show validTb i j xs = _; unfold validTb; rw [h2]; simp
      have H1 := Lib.hid h1
      have H2 := Lib.hid h2
      clear h1 h2
      go_enter Try.func34, Try.ntmps34
      go_wp2_with (go_at_call 60; refine (within_any _ _ _ _).mono ?_; (first | rw [H1.out] | rw [H2.out]); rintro e w' ⟨rfl, rfl⟩)
      go_ret
      exact ⟨ret_bool HV.out.symm, hb0⟩
    · obtain ⟨a, rfl, a1, a2⟩ := nat_of_inB h1
      obtain ⟨m, rfl, m1, m2⟩ := nat_of_inB h2
      obtain ⟨p, hp⟩ : ∃ p, p = a * m := ⟨_, rfl⟩
      have hp64 : p ≤ 64 := by rw [hp]; exact prod_le a2 m2
      have e1 : (a : Int) * (m : Int) = (p : Int) := by rw [hp]; simp
      obtain ⟨ad, n, c, rfl, hnl, hnc, hcm, -⟩ := SlR.opened 0 hv
      have hcm' : n ≤ 9223372036854775807 := by unfold maxLen at hcm; omega
      have H1 := Lib.hid h1
      have H2 := Lib.hid h2
      by_cases h3 : n = p
      · have htest := ieq_true (show (n : Int) = (p : Int) by rw [h3])
        generalize ho : oneB xs = o
        have HO := Lib.hid ho
        have HV : Hid (validTb a m xs = o) := by
          show validTb a m xs = _; unfold validTb; rw [h1, h2, e1, hnl, h3, ho]; simp
        clear h1 h2 h3 hp hnl ho
        cases o
        all_goals
          go_enter Try.func34, Try.ntmps34
          go_wp2_with (first | (go_at_call 60; refine (within_any _ _ _ _).mono ?_; (first | rw [H1.out] | rw [H2.out]); rintro e w' ⟨rfl, rfl⟩) | (go_at_call 83; refine (isOne_any _ xs _ hv1 HW.out).mono ?_; rw [HO.out]; rintro e w' ⟨rfl, mq, rfl⟩))
          go_ret
          exact ⟨ret_bool HV.out.symm, below_drewN hb0 _⟩
      · have htest := ieq_false (show ¬ (n : Int) = (p : Int) by omega)
        have HV : Hid (validTb a m xs = false) := by
          show validTb a m xs = _; unfold validTb; rw [e1, hnl]; simp; omega
        clear h1 h2 h3 hp hnl
        go_enter Try.func34, Try.ntmps34
        go_wp2_with (go_at_call 60; refine (within_any _ _ _ _).mono ?_; (first | rw [H1.out] | rw [H2.out]); rintro e w' ⟨rfl, rfl⟩)
        go_ret
        exact ⟨ret_bool HV.out.symm, hb0⟩

set_option maxHeartbeats 2000000 in
theorem l02Table_any (g : Nat) (i j : Int) (v : Value) (xs : List Nat) (w : World) (hg0 : w.cell? ⟨g, 0, none⟩ = some (.int .i64 i)) (hg1 : w.cell? ⟨g, 1, none⟩ = some (.int .i64 j)) (hg2 : w.cell? ⟨g, 2, none⟩ = some v) (hv : SlR w v (xs.map (Value.float .f32))) (hw : ∀ x ∈ xs, x < 4294967296) :
    Calls Try.prog 90 #[.pointer (some ⟨g, 0, none⟩)] w fun e w' => e = .returned (.bool (validTb i j xs)) ∧ Qu w w' := by
  have HW := Lib.hid hw
  clear hw
  have hin : ∀ (z : Int) (b : Bool), inB z 1 8 = b → ∀ W : World, Calls Try.prog 117 #[.int .i64 z, .int .i64 1, .int .i64 8] W fun e w' => e = .returned (.bool b) ∧ w' = W := fun z b hz W => (l00In_any z 1 8 W).mono fun e w' ⟨q1, q2⟩ => ⟨by rw [q1, hz], q2.symm⟩
  cases h1 : inB i 1 8
  · have HV : Hid (validTb i j xs = false) := by show validTb i j xs = _; unfold validTb; rw [h1]; rfl
    have hi1 := hin i _ h1
    clear h1 hin
    go_enter Try.func90, Try.ntmps90
    go_wp2
    go_quiet ((go_at_call 117; exact Calls.quiet_of_same (hi1 _)))
    go_wp2
    go_ret
    exact ⟨ret_bool HV.out.symm, _, rfl⟩
  · cases h2 : inB j 1 8
    · have HV : Hid (validTb i j xs = false) := by show validTb i j xs = _; unfold validTb; rw [h2]; simp
      have hi1 := hin i _ h1
      have hi2 := hin j _ h2
      clear h1 h2 hin
      go_enter Try.func90, Try.ntmps90
      go_wp2
      go_quiet ((go_at_call 117; first | (with_reducible exact Calls.quiet_of_same (hi1 _)) | (with_reducible exact Calls.quiet_of_same (hi2 _))))
      go_wp2
      go_ret
      exact ⟨ret_bool HV.out.symm, _, rfl⟩
    · have hi1 := hin i _ h1
      have hi2 := hin j _ h2
      obtain ⟨a, rfl, a1, a2⟩ := nat_of_inB h1
      obtain ⟨m, rfl, m1, m2⟩ := nat_of_inB h2
      obtain ⟨p, hp⟩ : ∃ p, p = a * m := ⟨_, rfl⟩
      have hp64 : p ≤ 64 := by rw [hp]; exact prod_le a2 m2
      have e1 : (a : Int) * (m : Int) = (p : Int) := by rw [hp]; simp
      obtain ⟨ad, n, c, rfl, hnl, hnc, hcm, -⟩ := SlR.opened 0 hv
      have hcm' : n ≤ 9223372036854775807 := by unfold maxLen at hcm; omega
      have f1 : IntKind.i64.wrap ((a : Int) * (m : Int)) = (p : Int) := by rw [e1]; exact IntWalk.i64_in _ (by omega)
      by_cases h3 : n = p
      · have htest := ieq_true (show (n : Int) = (p : Int) by rw [h3])
        generalize ho : oneB xs = o
        have hone : ∀ W : World, SlR W (.slice ad n c) (xs.map (Value.float .f32)) → Calls Try.prog 118 #[.slice ad n c] W fun e w' => e = .returned (.bool o) ∧ ∃ mq, w' = W.drewN mq := fun W hvW => (l02Chances_any _ xs W hvW HW.out).mono fun e w' ⟨q1, q2⟩ => ⟨by rw [q1, ho], q2⟩
        have HV : Hid (validTb a m xs = o) := by
          show validTb a m xs = _; unfold validTb; rw [h1, h2, e1, hnl, h3, ho]; simp
        have hvd : ∀ n, SlR (w.drewN n) _ _ := fun n => hv.below (Qu.keep ⟨n, rfl⟩)
        clear h1 h2 h3 hp hnl hin ho
        cases o
        all_goals
          go_enter Try.func90, Try.ntmps90
          go_wp2
          go_quiet ((first | (go_at_call 117; first | (with_reducible exact Calls.quiet_of_same (hi1 _)) | (with_reducible exact Calls.quiet_of_same (hi2 _))) | (go_at_call 118; exact Calls.quiet_of (hone _ (hvd _)))))
          go_wp2
          go_ret
          exact ⟨ret_bool HV.out.symm, _, rfl⟩
      · have htest := ieq_false (show ¬ (n : Int) = (p : Int) by omega)
        have HV : Hid (validTb a m xs = false) := by
          show validTb a m xs = _; unfold validTb; rw [e1, hnl]; simp; omega
        clear h1 h2 h3 hp hnl hin
        go_enter Try.func90, Try.ntmps90
        go_wp2
        go_quiet ((go_at_call 117; first | (with_reducible exact Calls.quiet_of_same (hi1 _)) | (with_reducible exact Calls.quiet_of_same (hi2 _))))
        go_wp2
        go_ret
        exact ⟨ret_bool HV.out.symm, _, rfl⟩

/-- The sums of a rows of m numbers. -/
def partsOf (xs : List Nat) (m a : Nat) : List Nat := (List.range a).map (fun k => fsum (rowOf xs m k))
theorem partsOf_succ (xs : List Nat) (m a : Nat) : partsOf xs m (a + 1) = partsOf xs m a ++ [fsum (rowOf xs m a)] := by simp [partsOf, List.range_succ]
theorem partsOf_length (xs : List Nat) (m a : Nat) : (partsOf xs m a).length = a := by simp [partsOf]
theorem rowOf_pn {xs : List Nat} {m k : Nat} (h : ∀ x ∈ xs, Pn x) : ∀ x ∈ rowOf xs m k, Pn x := fun x hx => h x (rowOf_mem hx)
theorem partsOf_le {xs : List Nat} {m a : Nat} (h : ∀ x ∈ xs, Pn x) : ∀ x ∈ partsOf xs m a, x ≤ 2139095040 := by
  intro x hx
  unfold partsOf at hx
  obtain ⟨k, _, rfl⟩ := List.mem_map.1 hx
  exact fsum_le (rowOf_pn h)
theorem map_snoc_f (xs : List Nat) (y : Nat) : xs.map (Value.float .f32) ++ [.float .f32 y] = (xs ++ [y]).map (Value.float .f32) := by simp

set_option maxHeartbeats 2000000 in
theorem parts_any (a m : Nat) (v : Value) (xs : List Nat) (w : World) (hv : SlR w v (xs.map (Value.float .f32))) (hp : ∀ x ∈ xs, Pn x) (a2 : a ≤ 64) (m1 : 1 ≤ m) (m2 : m ≤ 64) (hl : xs.length = a * m) :
    Calls Try.prog 77 #[.agg #[.int .i64 a, .int .i64 m, v]] w (RetSl w 32 a ((partsOf xs m a).map (Value.float .f32)) id) := by
  obtain ⟨i0, hi0, hz00, hz01, hz02⟩ := info_parts info_Float32S
  have HP := Lib.hid hp
  have HL := Lib.hid hl
  clear hp hl
  go_enter Try.func77, Try.ntmps77
  go_wp2
  obtain ⟨W0, hW0⟩ : ∃ W0, W0 = w.alloc (.cells #[.int .i64 (a : Int), .int .i64 (m : Int), v] 47) := ⟨_, rfl⟩
  have hsz : W0.heap.size = w.heap.size + 1 := by rw [hW0]; simp
  have hbw : Below w.heap.size w W0 := by rw [hW0]; go_grown
  have c0 : World.cell? W0 ⟨w.heap.size, 0, none⟩ = some (.int .i64 (a : Int)) := by rw [hW0]; go_cell
  have c1 : World.cell? W0 ⟨w.heap.size, 1, none⟩ = some (.int .i64 (m : Int)) := by rw [hW0]; go_cell
  have c2 : World.cell? W0 ⟨w.heap.size, 2, none⟩ = some v := by rw [hW0]; go_cell
  rw [← hW0]
  clear hW0
  have hv0 := hv.below hbw
  have hown0 : (W0.alloc (.cells #[] 32)).ownsRow W0.heap.size 32 1 (.slice (some ⟨w.heap.size + 1, 0, none⟩) 0 0) 0 [] := by
    have := World.ownsRow_made (e := 32) (size := 1) W0 #[] 0 (Nat.le_refl _) (Nat.zero_le _) rfl
    rw [hsz] at this ⊢; exact this
  have hb0 : Below W0.heap.size W0 (W0.alloc (.cells #[] 32)) := by go_grown
  go_loopw [3, 8] (fun u q wr => ∃ k : Nat, k ≤ a ∧ q = .int .i64 k ∧ wr.ownsRow W0.heap.size 32 1 u k ((partsOf xs m k).map (Value.float .f32)) ∧ Below W0.heap.size W0 wr) (fun _ q _ => a - (intOf q).toNat)
  case atStart => exact ⟨0, Nat.zero_le _, rfl, hown0, hb0⟩
  case round =>
    clear hown0 hb0
    obtain ⟨k, hk, rfl, hown, hb⟩ := hrel
    have hbs := hb.size
    replace c0 := cell_step c0 hb
    by_cases hlt : k < a
    · replace c1 := cell_step c1 hb
      replace c2 := cell_step c2 hb
      have hvr := hv0.below hb
      have HK : Hid ((k + 1) * m ≤ xs.length) := by show (k + 1) * m ≤ _; rw [HL.out]; exact row_le hlt
      go_wp2_with (first | (go_at_call 82; refine (tbRow_any _ m k _ xs _ hvr m1 (by omega) (by omega) HK.out).mono ?_; rintro e w2 ⟨⟨ar, cr, rfl, hsr⟩, hw2⟩; have hown2 := hown.alloc (.cells #[.int .i64 (a : Int), .int .i64 (m : Int), v] 47); have hb2 := hb.alloc hbs (.cells #[.int .i64 (a : Int), .int .i64 (m : Int), v] 47); have hsr2 := hsr _ (hvr.below (show Below wr.heap.size wr (wr.alloc (.cells #[.int .i64 (a : Int), .int .i64 (m : Int), v] 47)) by go_grown)); rw [← hw2] at hown2 hb2 hsr2; clear hw2; have hbs2 := hb2.size) | (go_at_call 86; refine (addUp_any _ (rowOf xs m k) _ hsr2 (rowOf_pn HP.out)).mono ?_; rintro e w3 ⟨rfl, rfl⟩) | (at_builtin; refine wpList_append_own _ rfl _ _ 25 rfl W0.heap.size 32 i0 (.float .f32 0) 1 4 Try.underlying25 hi0 hz00 hz01 hz02 rfl (by decide) u3 _ _ rfl (hown2.alloc _) ⟨(World.heap w2).size, 0, none⟩ 1 1 [.float .f32 (fsum (rowOf xs m k))] rfl rfl (cell_one_new _ _ _) (one_oneCell rfl) (by unfold maxLen; omega) (by omega) (by simp only [World.size_alloc]; have := hb2.size; omega) ?_; intro v1 w4 hown4 hgx _; have hb4 := app_below hb2 (by have := hb2.size; omega) _ hgx hown2 (by omega)))
      rw [map_snoc_f, ← partsOf_succ] at hown4
      go_roundw
      case rel => exact ⟨k + 1, by omega, by go_num, hown4, hb4⟩
      case measure => simp [intOf]; omega
    · obtain rfl : a = k := by omega
      go_wp2
      go_ret
      exact RetSl.of (f := id) (ownsRow_base hown (by omega)) (hbw.trans (hb.mono (by omega)))

set_option maxHeartbeats 2000000 in
theorem l02Rows_any (g : Nat) (a m : Nat) (v : Value) (xs : List Nat) (w : World) (hg0 : w.cell? ⟨g, 0, none⟩ = some (.int .i64 a)) (hg1 : w.cell? ⟨g, 1, none⟩ = some (.int .i64 m)) (hg2 : w.cell? ⟨g, 2, none⟩ = some v) (hv : SlR w v (xs.map (Value.float .f32))) (hp : ∀ x ∈ xs, Pn x) (a2 : a ≤ 64) (m1 : 1 ≤ m) (m2 : m ≤ 64) (hl : xs.length = a * m) :
    Calls Try.prog 93 #[.pointer (some ⟨g, 0, none⟩)] w (RetSl w 32 a ((partsOf xs m a).map (Value.float .f32)) id) := by
  obtain ⟨i0, hi0, hz00, hz01, hz02⟩ := info_parts info_Float32S
  have HP := Lib.hid hp
  have HL := Lib.hid hl
  clear hp hl
  go_enter Try.func93, Try.ntmps93
  go_wp2
  have hown0 : (w.alloc (.cells #[] 32)).ownsRow w.heap.size 32 1 (.slice (some ⟨w.heap.size, 0, none⟩) 0 0) 0 [] := World.ownsRow_made w #[] 0 (Nat.le_refl _) (Nat.zero_le _) rfl
  have hb0 : Below w.heap.size w (w.alloc (.cells #[] 32)) := by go_grown
  go_loopw [3, 4] (fun u q wr => ∃ k : Nat, k ≤ a ∧ q = .int .i64 k ∧ wr.ownsRow w.heap.size 32 1 u k ((partsOf xs m k).map (Value.float .f32)) ∧ Below w.heap.size w wr) (fun _ q _ => a - (intOf q).toNat)
  case atStart => exact ⟨0, Nat.zero_le _, rfl, hown0, hb0⟩
  case round =>
    clear hown0 hb0
    obtain ⟨k, hk, rfl, hown, hb⟩ := hrel
    have hbs := hb.size
    have c0 := cell_step hg0 hb
    by_cases hlt : k < a
    · have c1 := cell_step hg1 hb
      have c2 := cell_step hg2 hb
      have hvr := hv.below hb
      clear hg0 hg1 hg2
      have HK : Hid ((k + 1) * m ≤ xs.length) := by show (k + 1) * m ≤ _; rw [HL.out]; exact row_le hlt
      go_wp2_with (first | (go_at_call 120; refine (l02At_any g m k _ xs _ c1 c2 hvr m1 (by omega) (by omega) HK.out).mono ?_; rintro e w2 ⟨⟨ar, cr, rfl, hsr⟩, hqu⟩; have hown2 := ownsRow_below hown hqu.keep; have hb2 := hb.trans (hqu.below _); have hsr2 := hsr _ (hvr.below hqu.keep); have hbs2 := hb2.size; clear hqu) | (go_at_call 119; refine (l02Sum_any _ (rowOf xs m k) _ hsr2 (rowOf_pn HP.out)).mono ?_; rintro e w3 ⟨rfl, rfl⟩) | (at_builtin; refine wpList_append_own _ rfl _ _ 25 rfl w.heap.size 32 i0 (.float .f32 0) 1 4 Try.underlying25 hi0 hz00 hz01 hz02 rfl (by decide) u3 _ _ rfl (hown2.alloc _) ⟨(World.heap w2).size, 0, none⟩ 1 1 [.float .f32 (fsum (rowOf xs m k))] rfl rfl (cell_one_new _ _ _) (one_oneCell rfl) (by unfold maxLen; omega) (by omega) (by simp only [World.size_alloc]; have := hb2.size; omega) ?_; intro v1 w4 hown4 hgx _; have hb4 := app_below hb2 (by have := hb2.size; omega) _ hgx hown2 (by omega)))
      rw [map_snoc_f, ← partsOf_succ] at hown4
      go_roundw
      case rel => exact ⟨k + 1, by omega, by go_num, hown4, hb4⟩
      case measure => simp [intOf]; omega
    · obtain rfl : a = k := by omega
      clear hg0 hg1 hg2
      go_wp2
      go_ret
      exact RetSl.of (f := id) hown hb

def out_RowPart (i j : Int) (xs : List Nat) : List Nat × Bool := if validTb i j xs && rowB (partsOf xs j.toNat i.toNat) then (partsOf xs j.toNat i.toNat, true) else ([], false)
theorem len_RowPart (i j : Int) (hi : I64 i) (hj : I64 j) (xs : List Nat) (_ : ∀ x ∈ xs, x < 4294967296) (_ : xs.length ≤ 1048576) : (out_RowPart i j xs).1.length ≤ 1048576 := by
  unfold out_RowPart
  split
  · rename_i h
    rw [Bool.and_eq_true] at h
    obtain ⟨_, h2, _⟩ := rowB_one h.2
    show (partsOf xs j.toNat i.toNat).length ≤ _
    omega
  · exact Nat.zero_le _
theorem lt_of_le_inf {ys : List Nat} (h : ∀ x ∈ ys, x ≤ 2139095040) : ∀ x ∈ ys, x < 4294967296 := fun x hx => by have := h x hx; omega
theorem outRow_no1 {i j : Int} {xs : List Nat} (h : validTb i j xs = false) : out_RowPart i j xs = ([], false) := by unfold out_RowPart; rw [h]; rfl
theorem outRow_no2 {a m : Nat} {xs : List Nat} (h : rowB (partsOf xs m a) = false) : out_RowPart a m xs = ([], false) := by unfold out_RowPart; rw [Int.toNat_natCast, Int.toNat_natCast, h]; simp
theorem outRow_yes {a m : Nat} {xs : List Nat} (hv : validTb a m xs = true) (h : rowB (partsOf xs m a) = true) : out_RowPart a m xs = (partsOf xs m a, true) := by unfold out_RowPart; rw [Int.toNat_natCast, Int.toNat_natCast, h, hv]; simp
theorem RetSl.none {w w' : World} {T : TypeId} {f : Value → Value} (hb : Below w.heap.size w w') : RetSl w T 0 [] f (.returned (f (.slice none 0 0))) w' :=
  ⟨Option.none, 0, rfl, ⟨rfl, .inl ⟨rfl, rfl⟩⟩, hb⟩

set_option maxHeartbeats 2000000 in
theorem impl_RowPart (w : World) (i j : Int) (hi : I64 i) (hj : I64 j) (v : Value) (xs : List Nat) (hv : SlR w v (xs.map (Value.float .f32))) (hx : ∀ x ∈ xs, x < 4294967296) (_ : xs.length ≤ 1048576) :
    Calls Try.prog 27 #[.agg #[.int .i64 i, .int .i64 j, v]] w (RetSl w 32 (out_RowPart i j xs).1.length ((out_RowPart i j xs).1.map (Value.float .f32)) (fun v => .tuple #[v, .bool (out_RowPart i j xs).2])) := by
  have HX := Lib.hid hx
  clear hx
  have hb0 : Below w.heap.size w (w.alloc (.cells #[.int .i64 i, .int .i64 j, v] 47)) := by go_grown
  have hv1 := hv.below hb0
  generalize hd : validTb i j xs = d
  have HD := Lib.hid hd
  cases d
  · rw [outRow_no1 hd]
    clear hd
    go_enter Try.func27, Try.ntmps27
    go_wp2_with (go_at_call 34; refine (implValidTable_any i j _ xs _ hv1 HX.out).mono ?_; rw [HD.out]; rintro e w' ⟨rfl, hb⟩)
    go_ret2
    exact RetSl.none (f := fun v => .tuple #[v, .bool false]) (hb0.trans (hb.mono (by simp)))
  · obtain ⟨a, m, rfl, rfl, a1, a2, m1, m2, hl, ho⟩ := validTb_nat hd
    have hpn : ∀ x ∈ xs, Pn x := fun x hx => (oneB_ch ho x hx).pn
    have HL := Lib.hid hl
    have HP := Lib.hid hpn
    have HB := Lib.hid (lt_of_le_inf (partsOf_le (m := m) (a := a) hpn))
    cases hr : rowB (partsOf xs m a)
    · rw [outRow_no2 hr]
      have HR := Lib.hid hr
      clear hd ho hpn hr hl
      go_enter Try.func27, Try.ntmps27
      go_wp2_with (first | (go_at_call 34; refine (implValidTable_any a m _ xs _ hv1 HX.out).mono ?_; rw [HD.out]; rintro e w1 ⟨rfl, hb⟩; have hb1 := hb0.trans (hb.mono (by simp)); obtain ⟨hc, -⟩ := bcell hb; have c0 : w1.cell? ⟨w.heap.size, 0, none⟩ = some (.int .i64 (a : Int)) := (by rw [hc _ _ (by simp)]; simp); have c1 : w1.cell? ⟨w.heap.size, 1, none⟩ = some (.int .i64 (m : Int)) := (by rw [hc _ _ (by simp)]; simp); have c2 : w1.cell? ⟨w.heap.size, 2, none⟩ = some v := (by rw [hc _ _ (by simp)]; simp); clear hc; have hv2 := hv.below hb1; clear hb) | (go_at_call 77; refine (parts_any a m _ xs _ hv2 HP.out (by omega) m1 (by omega) HL.out).mono ?_; rintro e w2 ⟨ap, cp, rfl, hop, hbp⟩) | (go_at_call 68; refine (asRow_no _ (partsOf xs m a) _ (SlR.own hop) HB.out HR.out).mono ?_; rintro e w3 ⟨rfl, mq, rfl⟩))
      go_ret2
      exact RetSl.none (f := fun v => .tuple #[v, .bool false]) (below_drewN (hb1.trans (hbp.mono hb1.size)) _)
    · rw [outRow_yes hd hr]
      have HR := Lib.hid hr
      clear hd ho hpn hr hl
      dsimp only
      rw [partsOf_length]
      go_enter Try.func27, Try.ntmps27
      go_wp2_with (first | (go_at_call 34; refine (implValidTable_any a m _ xs _ hv1 HX.out).mono ?_; rw [HD.out]; rintro e w1 ⟨rfl, hb⟩; have hb1 := hb0.trans (hb.mono (by simp)); obtain ⟨hc, -⟩ := bcell hb; have c0 : w1.cell? ⟨w.heap.size, 0, none⟩ = some (.int .i64 (a : Int)) := (by rw [hc _ _ (by simp)]; simp); have c1 : w1.cell? ⟨w.heap.size, 1, none⟩ = some (.int .i64 (m : Int)) := (by rw [hc _ _ (by simp)]; simp); have c2 : w1.cell? ⟨w.heap.size, 2, none⟩ = some v := (by rw [hc _ _ (by simp)]; simp); clear hc; have hv2 := hv.below hb1; clear hb) | (go_at_call 77; refine (parts_any a m _ xs _ hv2 HP.out (by omega) m1 (by omega) HL.out).mono ?_; rintro e w2 ⟨ap, cp, rfl, hop, hbp⟩) | (go_at_call 68; refine (asRow_yes _ (partsOf xs m a) _ (SlR.own hop) HB.out HR.out).mono ?_; rintro e w3 ⟨rfl, mq, rfl⟩))
      go_ret2
      exact RetSl.mk (f := fun v => .tuple #[v, .bool true]) (ownsRow_base (ownsRow_below hop (Qu.keep ⟨_, rfl⟩)) hb1.size) (below_drewN (hb1.trans (hbp.mono hb1.size)) _)


end Go.Proofs.Ytmocfnpbofeiiaa
