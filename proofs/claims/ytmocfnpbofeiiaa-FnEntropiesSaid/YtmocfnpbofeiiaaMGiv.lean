/- Tables: valid ones, the sums of their rows. -/
import Derived.Test.YtmocfnpbofeiiaaMVld
import Derived.Test.YtmocfnpbofeiiaaMHmx
namespace Go.Proofs.Ytmocfnpbofeiiaa
set_option linter.unusedSimpArgs false
set_option linter.unusedVariables false
open Go.RowKit


set_option maxHeartbeats 2000000 in
theorem implValidTable_any (i j : Int) (v : Value) (xs : List Nat) (w : World) (hv : SlR w v (xs.map (Value.float .f32))) (hw : ∀ x ∈ xs, x < 4294967296) :
    Calls Try.prog 34 #[.agg #[.int .i64 i, .int .i64 j, v]] w fun e w' => e = .returned (.bool (validTb i j xs)) ∧ Below w.heap.size w w' := by
  have HW := Lib.hid hw
  have hb0 : Below w.heap.size w (w.alloc (.cells #[.int .i64 i, .int .i64 j, v] 47)) := by go_grown
  have hv1 := hv.below hb0
  clear hw
  cases h1 : inB i 1 8
  · have HV : Hid (validTb i j xs = false) := by show validTb i j xs = _; unfold validTb; rw [h1]; rfl
    have H1 := Lib.hid h1
    clear h1
    go_enter Try.func34, Try.ntmps34
    go_wp2_with (go_at_call 60; refine (within_any _ _ _ _).mono ?_; rw [H1.out]; rintro e w' ⟨rfl, rfl⟩)
    go_ret
    exact ⟨ret_bool HV.out.symm, hb0⟩
  · cases h2 : inB j 1 8
    · have HV : Hid (validTb i j xs = false) := by show validTb i j xs = _; unfold validTb; rw [h2]; simp
      have H1 := Lib.hid h1
      have H2 := Lib.hid h2
      clear h1 h2
      go_enter Try.func34, Try.ntmps34
      go_wp2_with (go_at_call 60; refine (within_any _ _ _ _).mono ?_; (first | rw [H1.out] | rw [H2.out]); rintro e w' ⟨rfl, rfl⟩)
      go_ret
      exact ⟨ret_bool HV.out.symm, hb0⟩
    · obtain ⟨a, rfl, a1, a2⟩ := nat_of_inB h1
      obtain ⟨m, rfl, m1, m2⟩ := nat_of_inB h2
      obtain ⟨p, hp⟩ : ∃ p, p = a * m := ⟨_, rfl⟩
      have hp64 : p ≤ 64 := by rw [hp]; exact prod_le a2 m2
      have e1 : (a : Int) * (m : Int) = (p : Int) := by rw [hp]; simp
      obtain ⟨ad, n, c, rfl, hnl, hnc, hcm, -⟩ := SlR.opened 0 hv
      have hcm' : n ≤ 9223372036854775807 := by unfold maxLen at hcm; omega
      have H1 := Lib.hid h1
      have H2 := Lib.hid h2
      by_cases h3 : n = p
      · have htest := ieq_true (show (n : Int) = (p : Int) by rw [h3])
        generalize ho : oneB xs = o
        have HO := Lib.hid ho
        have HV : Hid (validTb a m xs = o) := by
          show validTb a m xs = _; unfold validTb; rw [h1, h2, e1, hnl, h3, ho]; simp
        clear h1 h2 h3 hp hnl ho
        cases o
        all_goals
          go_enter Try.func34, Try.ntmps34
          go_wp2_with (first | (go_at_call 60; refine (within_any _ _ _ _).mono ?_; (first | rw [H1.out] | rw [H2.out]); rintro e w' ⟨rfl, rfl⟩) | (go_at_call 83; refine (isOne_any _ xs _ hv1 HW.out).mono ?_; rw [HO.out]; rintro e w' ⟨rfl, mq, rfl⟩))
          go_ret
          exact ⟨ret_bool HV.out.symm, below_drewN hb0 _⟩
      · have htest := ieq_false (show ¬ (n : Int) = (p : Int) by omega)
        have HV : Hid (validTb a m xs = false) := by
          show validTb a m xs = _; unfold validTb; rw [e1, hnl]; simp; omega
        clear h1 h2 h3 hp hnl
        go_enter Try.func34, Try.ntmps34
        go_wp2_with (go_at_call 60; refine (within_any _ _ _ _).mono ?_; (first | rw [H1.out] | rw [H2.out]); rintro e w' ⟨rfl, rfl⟩)
        go_ret
        exact ⟨ret_bool HV.out.symm, hb0⟩

set_option maxHeartbeats 2000000 in
theorem l02Table_any (g : Nat) (i j : Int) (v : Value) (xs : List Nat) (w : World) (hg0 : w.cell? ⟨g, 0, none⟩ = some (.int .i64 i)) (hg1 : w.cell? ⟨g, 1, none⟩ = some (.int .i64 j)) (hg2 : w.cell? ⟨g, 2, none⟩ = some v) (hv : SlR w v (xs.map (Value.float .f32))) (hw : ∀ x ∈ xs, x < 4294967296) :
    Calls Try.prog 90 #[.pointer (some ⟨g, 0, none⟩)] w fun e w' => e = .returned (.bool (validTb i j xs)) ∧ Qu w w' := by
  have HW := Lib.hid hw
  clear hw
  have hin : ∀ (z : Int) (b : Bool), inB z 1 8 = b → ∀ W : World, Calls Try.prog 117 #[.int .i64 z, .int .i64 1, .int .i64 8] W fun e w' => e = .returned (.bool b) ∧ w' = W := fun z b hz W => (l00In_any z 1 8 W).mono fun e w' ⟨q1, q2⟩ => ⟨by rw [q1, hz], q2.symm⟩
  cases h1 : inB i 1 8
  · have HV : Hid (validTb i j xs = false) := by show validTb i j xs = _; unfold validTb; rw [h1]; rfl
    have hi1 := hin i _ h1
    clear h1 hin
    go_enter Try.func90, Try.ntmps90
    go_wp2
    go_quiet ((go_at_call 117; exact Calls.quiet_of_same (hi1 _)))
    go_wp2
    go_ret
    exact ⟨ret_bool HV.out.symm, _, rfl⟩
  · cases h2 : inB j 1 8
    · have HV : Hid (validTb i j xs = false) := by show validTb i j xs = _; unfold validTb; rw [h2]; simp
      have hi1 := hin i _ h1
      have hi2 := hin j _ h2
      clear h1 h2 hin
      go_enter Try.func90, Try.ntmps90
      go_wp2
      go_quiet ((go_at_call 117; first | (with_reducible exact Calls.quiet_of_same (hi1 _)) | (with_reducible exact Calls.quiet_of_same (hi2 _))))
      go_wp2
      go_ret
      exact ⟨ret_bool HV.out.symm, _, rfl⟩
    · have hi1 := hin i _ h1
      have hi2 := hin j _ h2
      obtain ⟨a, rfl, a1, a2⟩ := nat_of_inB h1
      obtain ⟨m, rfl, m1, m2⟩ := nat_of_inB h2
      obtain ⟨p, hp⟩ : ∃ p, p = a * m := ⟨_, rfl⟩
      have hp64 : p ≤ 64 := by rw [hp]; exact prod_le a2 m2
      have e1 : (a : Int) * (m : Int) = (p : Int) := by rw [hp]; simp
      obtain ⟨ad, n, c, rfl, hnl, hnc, hcm, -⟩ := SlR.opened 0 hv
      have hcm' : n ≤ 9223372036854775807 := by unfold maxLen at hcm; omega
      have f1 : IntKind.i64.wrap ((a : Int) * (m : Int)) = (p : Int) := by rw [e1]; exact IntWalk.i64_in _ (by omega)
      by_cases h3 : n = p
      · have htest := ieq_true (show (n : Int) = (p : Int) by rw [h3])
        generalize ho : oneB xs = o
        have hone : ∀ W : World, SlR W (.slice ad n c) (xs.map (Value.float .f32)) → Calls Try.prog 118 #[.slice ad n c] W fun e w' => e = .returned (.bool o) ∧ ∃ mq, w' = W.drewN mq := fun W hvW => (l02Chances_any _ xs W hvW HW.out).mono fun e w' ⟨q1, q2⟩ => ⟨by rw [q1, ho], q2⟩
        have HV : Hid (validTb a m xs = o) := by
          show validTb a m xs = _; unfold validTb; rw [h1, h2, e1, hnl, h3, ho]; simp
        have hvd : ∀ n, SlR (w.drewN n) _ _ := fun n => hv.below (Qu.keep ⟨n, rfl⟩)
        clear h1 h2 h3 hp hnl hin ho
        cases o
        all_goals
          go_enter Try.func90, Try.ntmps90
          go_wp2
          go_quiet ((first | (go_at_call 117; first | (with_reducible exact Calls.quiet_of_same (hi1 _)) | (with_reducible exact Calls.quiet_of_same (hi2 _))) | (go_at_call 118; exact Calls.quiet_of (hone _ (hvd _)))))
          go_wp2
          go_ret
          exact ⟨ret_bool HV.out.symm, _, rfl⟩
      · have htest := ieq_false (show ¬ (n : Int) = (p : Int) by omega)
        have HV : Hid (validTb a m xs = false) := by
          show validTb a m xs = _; unfold validTb; rw [e1, hnl]; simp; omega
        clear h1 h2 h3 hp hnl hin
        go_enter Try.func90, Try.ntmps90
        go_wp2
        go_quiet ((go_at_call 117; first | (with_reducible exact Calls.quiet_of_same (hi1 _)) | (with_reducible exact Calls.quiet_of_same (hi2 _))))
        go_wp2
        go_ret
        exact ⟨ret_bool HV.out.symm, _, rfl⟩

/-- The sums of a rows of m numbers. -/
def partsOf (xs : List Nat) (m a : Nat) : List Nat := (List.range a).map (fun k => fsum (rowOf xs m k))
theorem partsOf_succ (xs : List Nat) (m a : Nat) : partsOf xs m (a + 1) = partsOf xs m a ++ [fsum (rowOf xs m a)] := by simp [partsOf, List.range_succ]
theorem partsOf_length (xs : List Nat) (m a : Nat) : (partsOf xs m a).length = a := by simp [partsOf]
theorem rowOf_pn {xs : List Nat} {m k : Nat} (h : ∀ x ∈ xs, Pn x) : ∀ x ∈ rowOf xs m k, Pn x := fun x hx => h x (rowOf_mem hx)
theorem partsOf_le {xs : List Nat} {m a : Nat} (h : ∀ x ∈ xs, Pn x) : ∀ x ∈ partsOf xs m a, x ≤ 2139095040 := by
  intro x hx
  unfold partsOf at hx
  obtain ⟨k, _, rfl⟩ := List.mem_map.1 hx
  exact fsum_le (rowOf_pn h)
theorem map_snoc_f (xs : List Nat) (y : Nat) : xs.map (Value.float .f32) ++ [.float .f32 y] = (xs ++ [y]).map (Value.float .f32) := by simp

set_option maxHeartbeats 2000000 in
theorem parts_any (a m : Nat) (v : Value) (xs : List Nat) (w : World) (hv : SlR w v (xs.map (Value.float .f32))) (hp : ∀ x ∈ xs, Pn x) (a2 : a ≤ 64) (m1 : 1 ≤ m) (m2 : m ≤ 64) (hl : xs.length = a * m) :
    Calls Try.prog 77 #[.agg #[.int .i64 a, .int .i64 m, v]] w (RetSl w 32 a ((partsOf xs m a).map (Value.float .f32)) id) := by
  obtain ⟨i0, hi0, hz00, hz01, hz02⟩ := info_parts info_Float32S
  have HP := Lib.hid hp
  have HL := Lib.hid hl
  clear hp hl
  go_enter Try.func77, Try.ntmps77
  go_wp2
  obtain ⟨W0, hW0⟩ : ∃ W0, W0 = w.alloc (.cells #[.int .i64 (a : Int), .int .i64 (m : Int), v] 47) := ⟨_, rfl⟩
  have hsz : W0.heap.size = w.heap.size + 1 := by rw [hW0]; simp
  have hbw : Below w.heap.size w W0 := by rw [hW0]; go_grown
  have c0 : World.cell? W0 ⟨w.heap.size, 0, none⟩ = some (.int .i64 (a : Int)) := by rw [hW0]; go_cell
  have c1 : World.cell? W0 ⟨w.heap.size, 1, none⟩ = some (.int .i64 (m : Int)) := by rw [hW0]; go_cell
  have c2 : World.cell? W0 ⟨w.heap.size, 2, none⟩ = some v := by rw [hW0]; go_cell
  rw [← hW0]
  clear hW0
  have hv0 := hv.below hbw
  have hown0 : (W0.alloc (.cells #[] 32)).ownsRow W0.heap.size 32 1 (.slice (some ⟨w.heap.size + 1, 0, none⟩) 0 0) 0 [] := by
    have := World.ownsRow_made (e := 32) (size := 1) W0 #[] 0 (Nat.le_refl _) (Nat.zero_le _) rfl
    rw [hsz] at this ⊢; exact this
  have hb0 : Below W0.heap.size W0 (W0.alloc (.cells #[] 32)) := by go_grown
  go_loopw [3, 8] (fun u q wr => ∃ k : Nat, k ≤ a ∧ q = .int .i64 k ∧ wr.ownsRow W0.heap.size 32 1 u k ((partsOf xs m k).map (Value.float .f32)) ∧ Below W0.heap.size W0 wr) (fun _ q _ => a - (intOf q).toNat)
  case atStart => exact ⟨0, Nat.zero_le _, rfl, hown0, hb0⟩
  case round =>
    clear hown0 hb0
    obtain ⟨k, hk, rfl, hown, hb⟩ := hrel
    have hbs := hb.size
    replace c0 := cell_step c0 hb
    by_cases hlt : k < a
    · replace c1 := cell_step c1 hb
      replace c2 := cell_step c2 hb
      have hvr := hv0.below hb
      have HK : Hid ((k + 1) * m ≤ xs.length) := by show (k + 1) * m ≤ _; rw [HL.out]; exact row_le hlt
      go_wp2_with (first | (go_at_call 82; refine (tbRow_any _ m k _ xs _ hvr m1 (by omega) (by omega) HK.out).mono ?_; rintro e w2 ⟨⟨ar, cr, rfl, hsr⟩, hw2⟩; have hown2 := hown.alloc (.cells #[.int .i64 (a : Int), .int .i64 (m : Int), v] 47); have hb2 := hb.alloc hbs (.cells #[.int .i64 (a : Int), .int .i64 (m : Int), v] 47); have hsr2 := hsr _ (hvr.below (show Below wr.heap.size wr (wr.alloc (.cells #[.int .i64 (a : Int), .int .i64 (m : Int), v] 47)) by go_grown)); rw [← hw2] at hown2 hb2 hsr2; clear hw2; have hbs2 := hb2.size) | (go_at_call 86; refine (addUp_any _ (rowOf xs m k) _ hsr2 (rowOf_pn HP.out)).mono ?_; rintro e w3 ⟨rfl, rfl⟩) | (at_builtin; refine wpList_append_own _ rfl _ _ 25 rfl W0.heap.size 32 i0 (.float .f32 0) 1 4 Try.underlying25 hi0 hz00 hz01 hz02 rfl (by decide) u3 _ _ rfl (hown2.alloc _) ⟨(World.heap w2).size, 0, none⟩ 1 1 [.float .f32 (fsum (rowOf xs m k))] rfl rfl (cell_one_new _ _ _) (one_oneCell rfl) (by unfold maxLen; omega) (by omega) (by simp only [World.size_alloc]; have := hb2.size; omega) ?_; intro v1 w4 hown4 hgx _; have hb4 := app_below hb2 (by have := hb2.size; omega) _ hgx hown2 (by omega)))
      rw [map_snoc_f, ← partsOf_succ] at hown4
      go_roundw
      case rel => exact ⟨k + 1, by omega, by go_num, hown4, hb4⟩
      case measure => simp [intOf]; omega
    · obtain rfl : a = k := by omega
      go_wp2
      go_ret
      exact RetSl.of (f := id) (ownsRow_base hown (by omega)) (hbw.trans (hb.mono (by omega)))

set_option maxHeartbeats 2000000 in
theorem l02Rows_any (g : Nat) (a m : Nat) (v : Value) (xs : List Nat) (w : World) (hg0 : w.cell? ⟨g, 0, none⟩ = some (.int .i64 a)) (hg1 : w.cell? ⟨g, 1, none⟩ = some (.int .i64 m)) (hg2 : w.cell? ⟨g, 2, none⟩ = some v) (hv : SlR w v (xs.map (Value.float .f32))) (hp : ∀ x ∈ xs, Pn x) (a2 : a ≤ 64) (m1 : 1 ≤ m) (m2 : m ≤ 64) (hl : xs.length = a * m) :
    Calls Try.prog 93 #[.pointer (some ⟨g, 0, none⟩)] w (RetSl w 32 a ((partsOf xs m a).map (Value.float .f32)) id) := by
  obtain ⟨i0, hi0, hz00, hz01, hz02⟩ := info_parts info_Float32S
  have HP := Lib.hid hp
  have HL := Lib.hid hl
  clear hp hl
  go_enter Try.func93, Try.ntmps93
  go_wp2
  have hown0 : (w.alloc (.cells #[] 32)).ownsRow w.heap.size 32 1 (.slice (some ⟨w.heap.size, 0, none⟩) 0 0) 0 [] := World.ownsRow_made w #[] 0 (Nat.le_refl _) (Nat.zero_le _) rfl
  have hb0 : Below w.heap.size w (w.alloc (.cells #[] 32)) := by go_grown
  go_loopw [3, 4] (fun u q wr => ∃ k : Nat, k ≤ a ∧ q = .int .i64 k ∧ wr.ownsRow w.heap.size 32 1 u k ((partsOf xs m k).map (Value.float .f32)) ∧ Below w.heap.size w wr) (fun _ q _ => a - (intOf q).toNat)
  case atStart => exact ⟨0, Nat.zero_le _, rfl, hown0, hb0⟩
  case round =>
    clear hown0 hb0
    obtain ⟨k, hk, rfl, hown, hb⟩ := hrel
    have hbs := hb.size
    have c0 := cell_step hg0 hb
    by_cases hlt : k < a
    · have c1 := cell_step hg1 hb
      have c2 := cell_step hg2 hb
      have hvr := hv.below hb
      clear hg0 hg1 hg2
      have HK : Hid ((k + 1) * m ≤ xs.length) := by show (k + 1) * m ≤ _; rw [HL.out]; exact row_le hlt
      go_wp2_with (first | (go_at_call 120; refine (l02At_any g m k _ xs _ c1 c2 hvr m1 (by omega) (by omega) HK.out).mono ?_; rintro e w2 ⟨⟨ar, cr, rfl, hsr⟩, hqu⟩; have hown2 := ownsRow_below hown hqu.keep; have hb2 := hb.trans (hqu.below _); have hsr2 := hsr _ (hvr.below hqu.keep); have hbs2 := hb2.size; clear hqu) | (go_at_call 119; refine (l02Sum_any _ (rowOf xs m k) _ hsr2 (rowOf_pn HP.out)).mono ?_; rintro e w3 ⟨rfl, rfl⟩) | (at_builtin; refine wpList_append_own _ rfl _ _ 25 rfl w.heap.size 32 i0 (.float .f32 0) 1 4 Try.underlying25 hi0 hz00 hz01 hz02 rfl (by decide) u3 _ _ rfl (hown2.alloc _) ⟨(World.heap w2).size, 0, none⟩ 1 1 [.float .f32 (fsum (rowOf xs m k))] rfl rfl (cell_one_new _ _ _) (one_oneCell rfl) (by unfold maxLen; omega) (by omega) (by simp only [World.size_alloc]; have := hb2.size; omega) ?_; intro v1 w4 hown4 hgx _; have hb4 := app_below hb2 (by have := hb2.size; omega) _ hgx hown2 (by omega)))
      rw [map_snoc_f, ← partsOf_succ] at hown4
      go_roundw
      case rel => exact ⟨k + 1, by omega, by go_num, hown4, hb4⟩
      case measure => simp [intOf]; omega
    · obtain rfl : a = k := by omega
      clear hg0 hg1 hg2
      go_wp2
      go_ret
      exact RetSl.of (f := id) hown hb

def out_RowPart (i j : Int) (xs : List Nat) : List Nat × Bool := if validTb i j xs && rowB (partsOf xs j.toNat i.toNat) then (partsOf xs j.toNat i.toNat, true) else ([], false)
theorem len_RowPart (i j : Int) (hi : I64 i) (hj : I64 j) (xs : List Nat) (_ : ∀ x ∈ xs, x < 4294967296) (_ : xs.length ≤ 1048576) : (out_RowPart i j xs).1.length ≤ 1048576 := by
  unfold out_RowPart
  split
  · rename_i h
    rw [Bool.and_eq_true] at h
    obtain ⟨_, h2, _⟩ := rowB_one h.2
    show (partsOf xs j.toNat i.toNat).length ≤ _
    omega
  · exact Nat.zero_le _
theorem lt_of_le_inf {ys : List Nat} (h : ∀ x ∈ ys, x ≤ 2139095040) : ∀ x ∈ ys, x < 4294967296 := fun x hx => by have := h x hx; omega
theorem outRow_no1 {i j : Int} {xs : List Nat} (h : validTb i j xs = false) : out_RowPart i j xs = ([], false) := by unfold out_RowPart; rw [h]; rfl
theorem outRow_no2 {a m : Nat} {xs : List Nat} (h : rowB (partsOf xs m a) = false) : out_RowPart a m xs = ([], false) := by unfold out_RowPart; rw [Int.toNat_natCast, Int.toNat_natCast, h]; simp
theorem outRow_yes {a m : Nat} {xs : List Nat} (hv : validTb a m xs = true) (h : rowB (partsOf xs m a) = true) : out_RowPart a m xs = (partsOf xs m a, true) := by unfold out_RowPart; rw [Int.toNat_natCast, Int.toNat_natCast, h, hv]; simp
theorem RetSl.none {w w' : World} {T : TypeId} {f : Value → Value} (hb : Below w.heap.size w w') : RetSl w T 0 [] f (.returned (f (.slice none 0 0))) w' :=
  ⟨Option.none, 0, rfl, ⟨rfl, .inl ⟨rfl, rfl⟩⟩, hb⟩

set_option maxHeartbeats 2000000 in
theorem impl_RowPart (w : World) (i j : Int) (hi : I64 i) (hj : I64 j) (v : Value) (xs : List Nat) (hv : SlR w v (xs.map (Value.float .f32))) (hx : ∀ x ∈ xs, x < 4294967296) (_ : xs.length ≤ 1048576) :
    Calls Try.prog 27 #[.agg #[.int .i64 i, .int .i64 j, v]] w (RetSl w 32 (out_RowPart i j xs).1.length ((out_RowPart i j xs).1.map (Value.float .f32)) (fun v => .tuple #[v, .bool (out_RowPart i j xs).2])) := by
  have HX := Lib.hid hx
  clear hx
  have hb0 : Below w.heap.size w (w.alloc (.cells #[.int .i64 i, .int .i64 j, v] 47)) := by go_grown
  have hv1 := hv.below hb0
  generalize hd : validTb i j xs = d
  have HD := Lib.hid hd
  cases d
  · rw [outRow_no1 hd]
    clear hd
    go_enter Try.func27, Try.ntmps27
    go_wp2_with (go_at_call 34; refine (implValidTable_any i j _ xs _ hv1 HX.out).mono ?_; rw [HD.out]; rintro e w' ⟨rfl, hb⟩)
    go_ret2
    exact RetSl.none (f := fun v => .tuple #[v, .bool false]) (hb0.trans (hb.mono (by simp)))
  · obtain ⟨a, m, rfl, rfl, a1, a2, m1, m2, hl, ho⟩ := validTb_nat hd
    have hpn : ∀ x ∈ xs, Pn x := fun x hx => (oneB_ch ho x hx).pn
    have HL := Lib.hid hl
    have HP := Lib.hid hpn
    have HB := Lib.hid (lt_of_le_inf (partsOf_le (m := m) (a := a) hpn))
    cases hr : rowB (partsOf xs m a)
    · rw [outRow_no2 hr]
      have HR := Lib.hid hr
      clear hd ho hpn hr hl
      go_enter Try.func27, Try.ntmps27
      go_wp2_with (first | (go_at_call 34; refine (implValidTable_any a m _ xs _ hv1 HX.out).mono ?_; rw [HD.out]; rintro e w1 ⟨rfl, hb⟩; have hb1 := hb0.trans (hb.mono (by simp)); obtain ⟨hc, -⟩ := bcell hb; have c0 : w1.cell? ⟨w.heap.size, 0, none⟩ = some (.int .i64 (a : Int)) := (by rw [hc _ _ (by simp)]; simp); have c1 : w1.cell? ⟨w.heap.size, 1, none⟩ = some (.int .i64 (m : Int)) := (by rw [hc _ _ (by simp)]; simp); have c2 : w1.cell? ⟨w.heap.size, 2, none⟩ = some v := (by rw [hc _ _ (by simp)]; simp); clear hc; have hv2 := hv.below hb1; clear hb) | (go_at_call 77; refine (parts_any a m _ xs _ hv2 HP.out (by omega) m1 (by omega) HL.out).mono ?_; rintro e w2 ⟨ap, cp, rfl, hop, hbp⟩) | (go_at_call 68; refine (asRow_no _ (partsOf xs m a) _ (SlR.own hop) HB.out HR.out).mono ?_; rintro e w3 ⟨rfl, mq, rfl⟩))
      go_ret2
      exact RetSl.none (f := fun v => .tuple #[v, .bool false]) (below_drewN (hb1.trans (hbp.mono hb1.size)) _)
    · rw [outRow_yes hd hr]
      have HR := Lib.hid hr
      clear hd ho hpn hr hl
      dsimp only
      rw [partsOf_length]
      go_enter Try.func27, Try.ntmps27
      go_wp2_with (first | (go_at_call 34; refine (implValidTable_any a m _ xs _ hv1 HX.out).mono ?_; rw [HD.out]; rintro e w1 ⟨rfl, hb⟩; have hb1 := hb0.trans (hb.mono (by simp)); obtain ⟨hc, -⟩ := bcell hb; have c0 : w1.cell? ⟨w.heap.size, 0, none⟩ = some (.int .i64 (a : Int)) := (by rw [hc _ _ (by simp)]; simp); have c1 : w1.cell? ⟨w.heap.size, 1, none⟩ = some (.int .i64 (m : Int)) := (by rw [hc _ _ (by simp)]; simp); have c2 : w1.cell? ⟨w.heap.size, 2, none⟩ = some v := (by rw [hc _ _ (by simp)]; simp); clear hc; have hv2 := hv.below hb1; clear hb) | (go_at_call 77; refine (parts_any a m _ xs _ hv2 HP.out (by omega) m1 (by omega) HL.out).mono ?_; rintro e w2 ⟨ap, cp, rfl, hop, hbp⟩) | (go_at_call 68; refine (asRow_yes _ (partsOf xs m a) _ (SlR.own hop) HB.out HR.out).mono ?_; rintro e w3 ⟨rfl, mq, rfl⟩))
      go_ret2
      exact RetSl.mk (f := fun v => .tuple #[v, .bool true]) (ownsRow_base (ownsRow_below hop (Qu.keep ⟨_, rfl⟩)) hb1.size) (below_drewN (hb1.trans (hbp.mono hb1.size)) _)


end Go.Proofs.Ytmocfnpbofeiiaa

/- A row of a table divided by its sum. -/
namespace Go.Proofs.Ytmocfnpbofeiiaa
set_option linter.unusedSimpArgs false
set_option linter.unusedVariables false
open Go.RowKit

/-- The numbers divided by s. -/
def divAll (xs : List Nat) (s : Nat) : List Nat := xs.map (fun x => fA .quo .f32 x s)
theorem divAll_succ (xs : List Nat) (s k : Nat) (h : k < xs.length) : divAll (xs.take (k + 1)) s = divAll (xs.take k) s ++ [fA .quo .f32 (xs[k]?.getD 0) s] := by
  unfold divAll
  rw [List.take_succ_eq_append_getElem h, List.map_append]
  simp [List.getElem?_eq_getElem h]
theorem divAll_length (xs : List Nat) (s : Nat) : (divAll xs s).length = xs.length := by simp [divAll]
theorem pn_lt {x : Nat} (h : Pn x) : x < 4294967296 := by unfold Pn at h; omega
theorem divAll_lt {xs : List Nat} {s : Nat} (h : ∀ x ∈ xs, Ch x) (hs : s ≤ 2139095040) (h0 : 0 < s) : ∀ x ∈ divAll xs s, x < 4294967296 := by
  intro x hx
  unfold divAll at hx
  obtain ⟨y, hy, rfl⟩ := List.mem_map.1 hx
  exact pn_lt (div_ch (h y hy) hs h0).2
/-- Powers of two as words. -/
def W2 (e : Nat) : Nat := (127 + e) * 8388608
theorem rv_W2 (e : Nat) : rv Ieee.single (W2 e) = pv 1 e := by
  have h := rv_at Ieee.single (126 + e) (Ieee.single.binade) (.inr ⟨Nat.le_refl _, by have := binade_pos Ieee.single; omega⟩)
  have hB : Ieee.single.binade = 8388608 := by decide
  have hW : (126 + e) * Ieee.single.binade + Ieee.single.binade = W2 e := by rw [hB]; unfold W2; omega
  have hS := pv_shift 1 23 (Ieee.single.leastPlace + ((126 + e : Nat) : Int))
  have h2 : 1 * 2 ^ 23 = Ieee.single.binade := by decide
  rw [h2] at hS
  have h3 : Ieee.single.leastPlace = -149 := by decide
  have h4 : Ieee.single.leastPlace + ((126 + e : Nat) : Int) + ((23 : Nat) : Int) = (e : Int) := by rw [h3]; omega
  rw [h4] at hS
  rw [← hW, h, hS]
theorem add_W2 {s x e : Nat} (hs : s ≤ W2 e) (hx : Pn x) (hxe : x % 2147483648 ≤ W2 e) (he : e ≤ 126) : fA .add .f32 s x ≤ W2 (e + 1) := by
  have he1 : W2 e < 2139095040 := by unfold W2; omega
  have hcs : Ch s := .inl (by omega)
  have hcx : Ch x := by unfold Pn at hx; unfold Ch; omega
  obtain ⟨w, h1, h2, h3⟩ := add_spec s_hf hcs.fnt hcx.fnt
  obtain ⟨k1, k2⟩ := fA_of (op := .add) (k := .f32) h1
  have hw := (add_pn (s := s) (by omega) hx).2.1
  rw [k2] at hw ⊢
  have n1 := hcs.nonneg
  have n2 := hcx.nonneg
  have hr : rg Ieee.single w = w := rg_of_le Ieee.single (by rw [s_inf]; exact hw)
  rw [← hr]
  refine h2.le ?_
  rw [av_of_nonneg (by grind), rv_W2]
  have e1 := rv_le Ieee.single hs
  have e2 := rv_le Ieee.single hxe
  rw [rv_W2] at e1 e2
  rw [hcs.sv, hcx.sv, show s % 2147483648 = s by omega]
  have e3 : pv 1 ((e + 1 : Nat) : Int) = pv 1 e + pv 1 e := by
    rw [← pv_add, show (1 + 1 : Nat) = 1 * 2 ^ 1 from rfl, pv_shift]; congr 1
  rw [e3]; grind
theorem foldl_W2 (xs : List Nat) (h : ∀ x ∈ xs, Pn x ∧ x % 2147483648 ≤ W2 1) : ∀ (s e : Nat), 1 ≤ e → s ≤ W2 e → e + xs.length ≤ 127 → xs.foldl (fA .add .f32) s ≤ W2 (e + xs.length) := by
  induction xs with
  | nil => intro s e _ hs _; exact hs
  | cons a l ih =>
    intro s e he hs hl
    obtain ⟨h1, h2⟩ := h a (List.mem_cons_self ..)
    have hle : W2 1 ≤ W2 e := by unfold W2; omega
    rw [List.length_cons] at hl
    have := ih (fun x hx => h x (List.mem_cons_of_mem _ hx)) _ (e + 1) (by omega) (add_W2 hs h1 (by omega) (by omega)) (by omega)
    rw [List.foldl_cons, List.length_cons, show e + (l.length + 1) = e + 1 + l.length by omega]
    exact this
/-- A sum that is nearly 1 is at most 2. -/
theorem near_le {s : Nat} (hs : s ≤ 2139095040) (h : nearB s = true) : s ≤ W2 1 := by
  have h := of_decide_eq_true h
  by_cases hle : s ≤ W2 1
  · exact hle
  · exfalso
    have hW : W2 1 = 1073741824 := by decide
    obtain ⟨g1, _, q, hq, hc⟩ := sub_one hs
    by_cases hi : s = 2139095040
    · subst hi
      revert h
      decide +kernel
    · have hcs : Ch s := .inl (by omega)
      have h1 : Ch 1065353216 := .inl (by omega)
      obtain ⟨w, u1, u2, _⟩ := sub_spec s_hf hcs.fnt h1.fnt
      obtain ⟨a1, a2⟩ := fA_of (op := .sub) (k := .f32) u1
      rw [a2] at h
      have e1 := hcs.sv
      have e2 := h1.sv
      rw [Nat.mod_eq_of_lt (by omega)] at e1 e2
      have r1 : rv Ieee.single 1065353216 = pv 1 0 := by have := rv_W2 0; rw [show W2 0 = 1065353216 by decide] at this; exact this
      have r2 := rv_W2 1
      rw [hW] at r2
      have r3 : pv 1 ((1 : Nat) : Int) = pv 1 0 + pv 1 0 := by
        rw [← pv_add, show (1 + 1 : Nat) = 1 * 2 ^ 1 from rfl, pv_shift]; rfl
      have r4 := rv_lt Ieee.single (show 1073741824 < s by omega)
      have hpos := pv_nonneg 1 0
      have hge := u2.ge (K := 1065353216) (by rw [s_inf]; omega) (by rw [av_of_nonneg (by rw [e1, e2]; grind), e1, e2]; grind)
      rw [rgs] at hge
      omega
theorem one_le {xs : List Nat} (h : oneB xs = true) : fsum xs ≤ W2 1 := by
  have hp : ∀ x ∈ xs, Pn x := fun x hx => (oneB_ch h x hx).pn
  unfold oneB at h
  rw [Bool.and_eq_true] at h
  exact near_le (fsum_le hp) h.2
theorem one_el {xs : List Nat} (h : oneB xs = true) : ∀ x ∈ xs, Pn x ∧ x % 2147483648 ≤ W2 1 := fun x hx =>
  ⟨(oneB_ch h x hx).pn, Nat.le_trans (le_fsum (fun x hx => (oneB_ch h x hx).pn) x hx) (one_le h)⟩
/-- The sum of a few chances out of a table is finite. -/
theorem few_fin {xs ys : List Nat} (h : oneB xs = true) (hy : ∀ x ∈ ys, x ∈ xs) (hl : ys.length ≤ 64) : fsum ys < 2139095040 := by
  have := foldl_W2 ys (fun x hx => one_el h x (hy x hx)) 0 1 (by omega) (by unfold W2; omega) (by omega)
  have h2 : W2 (1 + ys.length) < 2139095040 := by unfold W2; omega
  unfold fsum; omega

set_option maxHeartbeats 1000000 in
theorem given_any (s : Nat) (v : Value) (xs : List Nat) (w : World) (hv : SlR w v (xs.map (Value.float .f32))) (hl : xs.length ≤ 1024) (hx : ∀ x ∈ xs, Ch x) (hs : s ≤ 2139095040) (h0 : 0 < s) :
    Calls Try.prog 81 #[v, .float .f32 s] w (RetSl w 32 xs.length ((divAll xs s).map (Value.float .f32)) id) := by
  obtain ⟨i0, hi0, hz00, hz01, hz02⟩ := info_parts info_Float32S
  obtain ⟨a, n, c, rfl, hnl, hnc, hcm, hcell⟩ := SlR.opened 0 hv
  have hn9 : n ≤ 1024 := by omega
  rw [hnl]
  have HN := Lib.hid hnl
  have HC := Lib.hid hcell
  have HX := Lib.hid hx
  have HZ := Lib.hid hs
  have H0 := Lib.hid h0
  clear hnl hcell hcm hnc hv hl hx hs h0
  go_enter Try.func81, Try.ntmps81
  go_wp2
  have hown0 : (w.alloc (.cells #[] 32)).ownsRow w.heap.size 32 1 (.slice (some ⟨w.heap.size, 0, none⟩) 0 0) 0 [] := World.ownsRow_made w #[] 0 (Nat.le_refl _) (Nat.zero_le _) rfl
  have hb0 : Below w.heap.size w (w.alloc (.cells #[] 32)) := by go_grown
  go_loopw [5, 11] (fun u i wr => ∃ k : Nat, k ≤ n ∧ i = .int .i64 k ∧ wr.ownsRow w.heap.size 32 1 u k ((divAll (xs.take k) s).map (Value.float .f32)) ∧ Below w.heap.size w wr) (fun _ i _ => n - (intOf i).toNat)
  case atStart => exact ⟨0, Nat.zero_le _, rfl, hown0, hb0⟩
  case round =>
    clear hown0 hb0
    obtain ⟨k, hk, rfl, hown, hb⟩ := hrel
    have hbs := hb.size
    by_cases hlt : k < n
    · obtain ⟨b, off, rfl, hc0, hbl⟩ := HC.out k hlt
      rw [List.getD_eq_getElem?_getD] at hc0
      have hc := (hb.cell (p := ⟨b, off + k, none⟩) hbl).trans hc0
      have hkl : k < xs.length := by rw [HN.out]; exact hlt
      have hdv := (div_ch (get_pn HX.out hkl) HZ.out H0.out).1
      have HS := Lib.hid (divAll_succ xs s k hkl)
      generalize xs[k]?.getD 0 = z at *
      clear hkl hc0
      go_wp2_with (at_builtin; refine wpList_append_own _ rfl _ _ 25 rfl w.heap.size 32 i0 (.float .f32 0) 1 4 Try.underlying25 hi0 hz00 hz01 hz02 rfl (by decide) u5 _ _ rfl (hown.alloc _) ⟨(World.heap wr).size, 0, none⟩ 1 1 [.float .f32 (fA .quo .f32 z s)] rfl rfl (cell_one_new _ _ _) (one_oneCell rfl) (by unfold maxLen; omega) (by omega) (by simp only [World.size_alloc]; have := hb.size; omega) ?_; intro v1 w1 hown1 hgx _; have hb1 := app_below hb (by have := hb.size; omega) _ hgx hown (by omega))
      rw [map_snoc_f, ← HS.out] at hown1
      go_roundw
      case rel => exact ⟨k + 1, by omega, by go_num, hown1, hb1⟩
      case measure => simp [intOf]; omega
    · obtain rfl : n = k := by omega
      go_wp2
      go_ret
      rw [List.take_of_length_le (by rw [HN.out]; exact Nat.le_refl _)] at hown
      exact RetSl.of (f := id) hown hb

set_option maxHeartbeats 2000000 in
theorem l02Given_any (g : Nat) (m q : Nat) (v : Value) (xs : List Nat) (s : Nat) (w : World) (hg1 : w.cell? ⟨g, 1, none⟩ = some (.int .i64 m)) (hg2 : w.cell? ⟨g, 2, none⟩ = some v) (hv : SlR w v (xs.map (Value.float .f32))) (hp : ∀ x ∈ xs, Ch x) (m1 : 1 ≤ m) (m2 : m ≤ 64) (q2 : q ≤ 64) (hk : (q + 1) * m ≤ xs.length) (hS : fsum (rowOf xs m q) = s) (h0 : 0 < s) :
    Calls Try.prog 95 #[.pointer (some ⟨g, 0, none⟩), .int .i64 q] w (RetSl w 32 m ((divAll (rowOf xs m q) s).map (Value.float .f32)) id) := by
  obtain ⟨i0, hi0, hz00, hz01, hz02⟩ := info_parts info_Float32S
  have hpr : ∀ x ∈ rowOf xs m q, Ch x := fun x hx => hp x (rowOf_mem hx)
  have hs : s ≤ 2139095040 := by rw [← hS]; exact fsum_le (fun x hx => (hpr x hx).pn)
  have HPR := Lib.hid hpr
  have HK := Lib.hid hk
  have HS := Lib.hid hS
  have HZ := Lib.hid hs
  have H0 := Lib.hid h0
  have HRL := Lib.hid (rowOf_length hk)
  clear hp hk hS hs h0 hpr
  go_enter Try.func95, Try.ntmps95
  go_wp2_with (first | (go_at_call 120; refine (l02At_any g m q _ xs _ (cell_step hg1 (by go_grown)) (cell_step hg2 (by go_grown)) (hv.below (by go_grown)) m1 m2 q2 HK.out).mono ?_; rintro e w2 ⟨⟨ar, cr, rfl, hsr⟩, hqu⟩; have hb1 := (show Below w.heap.size w (w.alloc (.cells #[] 32)) by go_grown).trans (hqu.below _)) | (go_at_call 119; refine (l02Sum_any _ (rowOf xs m q) _ (hsr _ (hv.below hb1)) (fun x hx => (HPR.out x hx).pn)).mono ?_; rw [HS.out]; rintro e w3 ⟨rfl, rfl⟩))
  have hown0 : (w.alloc (.cells #[] 32)).ownsRow w.heap.size 32 1 (.slice (some ⟨w.heap.size, 0, none⟩) 0 0) 0 [] := World.ownsRow_made w #[] 0 (Nat.le_refl _) (Nat.zero_le _) rfl
  have hown1 := ownsRow_below hown0 hqu.keep
  have hsr1 := hsr _ hv
  obtain ⟨a4, n4, c4, he4, hnl4, hnc4, hcm4, hcell⟩ := SlR.opened 0 hsr1
  simp only [Value.slice.injEq] at he4
  obtain ⟨rfl, rfl, rfl⟩ := he4
  have HC := Lib.hid hcell
  clear hcell hnc4 hcm4 hnl4 hown0 hsr hqu hg1 hg2 hv hsr1
  go_loopw [5, 8] (fun u i wr => ∃ k : Nat, k ≤ m ∧ i = .int .i64 k ∧ wr.ownsRow w.heap.size 32 1 u k ((divAll ((rowOf xs m q).take k) s).map (Value.float .f32)) ∧ Below w.heap.size w wr) (fun _ i _ => m - (intOf i).toNat)
  case atStart => exact ⟨0, Nat.zero_le _, rfl, hown1, hb1⟩
  case round =>
    clear hown1 hb1
    obtain ⟨k, hk, rfl, hown, hb⟩ := hrel
    have hbs := hb.size
    by_cases hlt : k < m
    · obtain ⟨b, off, rfl, hc0, hbl⟩ := HC.out k hlt
      rw [List.getD_eq_getElem?_getD] at hc0
      have hc := (hb.cell (p := ⟨b, off + k, none⟩) hbl).trans hc0
      have hkl : k < (rowOf xs m q).length := by rw [HRL.out]; exact hlt
      have hdv := (div_ch (get_pn HPR.out hkl) HZ.out H0.out).1
      have HS2 := Lib.hid (divAll_succ (rowOf xs m q) s k hkl)
      generalize (rowOf xs m q)[k]?.getD 0 = z at *
      clear hkl hc0
      go_wp2_with (at_builtin; refine wpList_append_own _ rfl _ _ 25 rfl w.heap.size 32 i0 (.float .f32 0) 1 4 Try.underlying25 hi0 hz00 hz01 hz02 rfl (by decide) u5 _ _ rfl (hown.alloc _) ⟨(World.heap wr).size, 0, none⟩ 1 1 [.float .f32 (fA .quo .f32 z s)] rfl rfl (cell_one_new _ _ _) (one_oneCell rfl) (by unfold maxLen; omega) (by omega) (by simp only [World.size_alloc]; have := hb.size; omega) ?_; intro v1 w1 hown1 hgx _; have hb1 := app_below hb (by have := hb.size; omega) _ hgx hown (by omega))
      rw [map_snoc_f, ← HS2.out] at hown1
      go_roundw
      case rel => exact ⟨k + 1, by omega, by go_num, hown1, hb1⟩
      case measure => simp [intOf]; omega
    · obtain rfl : m = k := by omega
      go_wp2
      go_ret
      rw [List.take_of_length_le (by rw [HRL.out]; exact Nat.le_refl _)] at hown
      exact RetSl.of (f := id) hown hb

def givenOf (xs : List Nat) (m q : Nat) : List Nat := divAll (rowOf xs m q) (fsum (rowOf xs m q))
def givOk (i j : Int) (xs : List Nat) (k : Int) : Bool := validTb i j xs && inB k 0 (i - 1) && decide (0 < fsum (rowOf xs j.toNat k.toNat)) && rowB (givenOf xs j.toNat k.toNat)
def out_GivenRow (i j : Int) (xs : List Nat) (k : Int) : List Nat × Bool := if givOk i j xs k then (givenOf xs j.toNat k.toNat, true) else ([], false)
theorem outGiv_no {i j : Int} {xs : List Nat} {k : Int} (h : givOk i j xs k = false) : out_GivenRow i j xs k = ([], false) := by unfold out_GivenRow; rw [h]; rfl
theorem outGiv_yes {i j : Int} {xs : List Nat} {k : Int} (h : givOk i j xs k = true) : out_GivenRow i j xs k = (givenOf xs j.toNat k.toNat, true) := by unfold out_GivenRow; rw [h]; rfl
theorem len_GivenRow (i j : Int) (hi : I64 i) (hj : I64 j) (xs : List Nat) (_ : ∀ x ∈ xs, x < 4294967296) (_ : xs.length ≤ 1048576) (k : Int) (_ : I64 k) : (out_GivenRow i j xs k).1.length ≤ 1048576 := by
  cases h : givOk i j xs k
  · rw [outGiv_no h]; exact Nat.zero_le _
  · rw [outGiv_yes h]
    unfold givOk at h
    simp only [Bool.and_eq_true] at h
    obtain ⟨_, h2, _⟩ := rowB_one h.2
    show (givenOf xs j.toNat k.toNat).length ≤ _
    omega
theorem gtz {s : Nat} (hs : s < 2139095040) (h : 0 < s) : FloatKind.f32.format.order s 0 = some .gt := by
  show Ieee.single.order s 0 = _
  rw [order_p0 (.inl (by omega)), if_neg (by omega)]

set_option maxHeartbeats 4000000 in
theorem impl_GivenRow (w : World) (i j : Int) (hi : I64 i) (hj : I64 j) (v : Value) (xs : List Nat) (hv : SlR w v (xs.map (Value.float .f32))) (hx : ∀ x ∈ xs, x < 4294967296) (_ : xs.length ≤ 1048576) (k : Int) (hk : I64 k) :
    Calls Try.prog 36 #[.agg #[.int .i64 i, .int .i64 j, v], .int .i64 k] w (RetSl w 32 (out_GivenRow i j xs k).1.length ((out_GivenRow i j xs k).1.map (Value.float .f32)) (fun v => .tuple #[v, .bool (out_GivenRow i j xs k).2])) := by
  have HX := Lib.hid hx
  clear hx
  have hb0 : Below w.heap.size w (w.alloc (.cells #[.int .i64 i, .int .i64 j, v] 47)) := by go_grown
  have hv1 := hv.below hb0
  generalize hd : validTb i j xs = d
  have HD := Lib.hid hd
  cases d
  · rw [outGiv_no (by unfold givOk; rw [hd]; rfl)]
    clear hd
    go_enter Try.func36, Try.ntmps36
    go_wp2_with (go_at_call 34; refine (implValidTable_any _ _ _ xs _ hv1 HX.out).mono ?_; rw [HD.out]; rintro e w1 ⟨rfl, hb⟩; have hb1 := hb0.trans (hb.mono (by simp)); obtain ⟨hc, -⟩ := bcell hb; have c0 : w1.cell? ⟨w.heap.size, 0, none⟩ = some (.int .i64 i) := (by rw [hc _ _ (by simp)]; simp); have c1 : w1.cell? ⟨w.heap.size, 1, none⟩ = some (.int .i64 j) := (by rw [hc _ _ (by simp)]; simp); have c2 : w1.cell? ⟨w.heap.size, 2, none⟩ = some v := (by rw [hc _ _ (by simp)]; simp); clear hc; have hv2 := hv.below hb1; clear hb)
    go_ret2
    exact RetSl.none (f := fun v => .tuple #[v, .bool false]) hb1
  · obtain ⟨a, m, rfl, rfl, a1, a2, m1, m2, hl, ho⟩ := validTb_nat hd
    have hch := oneB_ch ho
    have hpn : ∀ x ∈ xs, Pn x := fun x hx => (hch x hx).pn
    have HCH := Lib.hid hch
    have HP := Lib.hid hpn
    cases hk2 : inB k 0 ((a : Int) - 1)
    · rw [outGiv_no (by unfold givOk; rw [hd, hk2]; rfl)]
      have HK := Lib.hid hk2
      clear hd ho hch hpn hk2 hl
      go_enter Try.func36, Try.ntmps36
      go_wp2_with (first | (go_at_call 34; refine (implValidTable_any _ _ _ xs _ hv1 HX.out).mono ?_; rw [HD.out]; rintro e w1 ⟨rfl, hb⟩; have hb1 := hb0.trans (hb.mono (by simp)); obtain ⟨hc, -⟩ := bcell hb; have c0 : w1.cell? ⟨w.heap.size, 0, none⟩ = some (.int .i64 (a : Int)) := (by rw [hc _ _ (by simp)]; simp); have c1 : w1.cell? ⟨w.heap.size, 1, none⟩ = some (.int .i64 (m : Int)) := (by rw [hc _ _ (by simp)]; simp); have c2 : w1.cell? ⟨w.heap.size, 2, none⟩ = some v := (by rw [hc _ _ (by simp)]; simp); clear hc; have hv2 := hv.below hb1; clear hb) | (go_at_call 60; refine (within_any _ _ _ _).mono ?_; rw [HK.out]; rintro e w' ⟨rfl, rfl⟩))
      go_ret2
      exact RetSl.none (f := fun v => .tuple #[v, .bool false]) hb1
    · obtain ⟨k1, k2⟩ := inB_true hk2
      obtain ⟨q, rfl⟩ : ∃ q : Nat, k = (q : Int) := ⟨k.toNat, by omega⟩
      have hqa : q < a := by omega
      have HK := Lib.hid hk2
      have HQ : Hid ((q + 1) * m ≤ xs.length) := by show (q + 1) * m ≤ _; rw [hl]; exact row_le hqa
      obtain ⟨s, hs⟩ : ∃ s, fsum (rowOf xs m q) = s := ⟨_, rfl⟩
      have hsf : s < 2139095040 := by rw [← hs]; exact few_fin ho (fun x hx => rowOf_mem hx) (by rw [rowOf_length HQ.out]; omega)
      have HS := Lib.hid hs
      have HSF := Lib.hid hsf
      have hrl := rowOf_length HQ.out
      have HRL := Lib.hid hrl
      have hG : givOk a m xs q = (decide (0 < s) && rowB (divAll (rowOf xs m q) s)) := by
        unfold givOk givenOf; rw [hd, hk2, Int.toNat_natCast, Int.toNat_natCast, hs]; rfl
      have hGO : givenOf xs ((m : Int)).toNat ((q : Int)).toNat = divAll (rowOf xs m q) s := by unfold givenOf; rw [Int.toNat_natCast, Int.toNat_natCast, hs]
      by_cases h0 : 0 < s
      · have HDL := Lib.hid (divAll_lt (fun x hx => hch x (rowOf_mem hx)) (show s ≤ 2139095040 by omega) h0 : ∀ x ∈ divAll (rowOf xs m q) s, x < 4294967296)
        have H0 : Hid (decide (0 < s) = true) := decide_eq_true h0
        have HZ := Lib.hid h0
        rw [decide_eq_true h0, Bool.true_and] at hG
        cases hr : rowB (divAll (rowOf xs m q) s)
        · rw [outGiv_no (by rw [hG, hr])]
          have HR := Lib.hid hr
          clear hd ho hch hpn hk2 hl hs hrl hG hGO hr h0 k1 k2
          have ho := gtz HSF.out HZ.out
          go_enter Try.func36, Try.ntmps36
          go_wp2_with (first | (go_at_call 34; refine (implValidTable_any _ _ _ xs _ hv1 HX.out).mono ?_; rw [HD.out]; rintro e w1 ⟨rfl, hb⟩; have hb1 := hb0.trans (hb.mono (by simp)); obtain ⟨hc, -⟩ := bcell hb; have c0 : w1.cell? ⟨w.heap.size, 0, none⟩ = some (.int .i64 (a : Int)) := (by rw [hc _ _ (by simp)]; simp); have c1 : w1.cell? ⟨w.heap.size, 1, none⟩ = some (.int .i64 (m : Int)) := (by rw [hc _ _ (by simp)]; simp); have c2 : w1.cell? ⟨w.heap.size, 2, none⟩ = some v := (by rw [hc _ _ (by simp)]; simp); clear hc; have hv2 := hv.below hb1; clear hb) | (go_at_call 60; refine (within_any _ _ _ _).mono ?_; rw [HK.out]; rintro e w' ⟨rfl, rfl⟩))
          (refine (tbRow_any _ m q _ xs _ hv2 m1 (by omega) (by omega) HQ.out).mono ?_; rintro e w2 ⟨⟨ar, cr, rfl, hsr⟩, hw2⟩; have hbx : Below w1.heap.size w1 w2 := (by rw [hw2]; go_grown); have hb2 := hb1.trans (hbx.mono hb1.size); have e0 := cell_step c0 hbx; have e1 := cell_step c1 hbx; have e2 := cell_step c2 hbx; have hv3 := hv2.below hbx; have HS2 := Lib.hid (hsr _ hv3); clear hw2 hbx hsr)
          go_wp2_with fail
          (refine (addUp_any _ (rowOf xs m q) _ HS2.out (rowOf_pn HP.out)).mono ?_; rw [HS.out]; rintro e w3 ⟨rfl, rfl⟩)
          go_wp2_with fail
          (refine (tbRow_any _ m q _ xs _ hv3 m1 (by omega) (by omega) HQ.out).mono ?_; rintro e w4 ⟨⟨ar9, cr9, rfl, hsr9⟩, hw4⟩; have hbx : Below w2.heap.size w2 w4 := (by rw [hw4]; go_grown); have hb4 := hb2.trans (hbx.mono hb2.size); have HV9 := Lib.hid (hv3.below hbx); clear hw4 hbx)
          go_wp2_with fail
          (refine (given_any s _ (rowOf xs m q) _ (hsr9 _ HV9.out) (by rw [HRL.out]; omega) (fun x hx => HCH.out x (rowOf_mem hx)) (by have := HSF.out; omega) HZ.out).mono ?_; rw [HRL.out]; rintro e w5 ⟨ag, cg, rfl, hog, hbg⟩)
          go_wp2_with fail
          (refine (asRow_no _ (divAll (rowOf xs m q) s) _ (SlR.own hog) HDL.out HR.out).mono ?_; rintro e w6 ⟨rfl, mq, rfl⟩)
          go_wp2_with fail
          go_ret2
          exact RetSl.none (f := fun v => .tuple #[v, .bool false]) (below_drewN (hb4.trans (hbg.mono hb4.size)) _)
        · rw [outGiv_yes (by rw [hG, hr]), hGO]
          have HR := Lib.hid hr
          clear hd ho hch hpn hk2 hl hs hrl hG hGO hr h0 k1 k2
          dsimp only
          rw [divAll_length, HRL.out]
          have ho := gtz HSF.out HZ.out
          go_enter Try.func36, Try.ntmps36
          go_wp2_with (first | (go_at_call 34; refine (implValidTable_any _ _ _ xs _ hv1 HX.out).mono ?_; rw [HD.out]; rintro e w1 ⟨rfl, hb⟩; have hb1 := hb0.trans (hb.mono (by simp)); obtain ⟨hc, -⟩ := bcell hb; have c0 : w1.cell? ⟨w.heap.size, 0, none⟩ = some (.int .i64 (a : Int)) := (by rw [hc _ _ (by simp)]; simp); have c1 : w1.cell? ⟨w.heap.size, 1, none⟩ = some (.int .i64 (m : Int)) := (by rw [hc _ _ (by simp)]; simp); have c2 : w1.cell? ⟨w.heap.size, 2, none⟩ = some v := (by rw [hc _ _ (by simp)]; simp); clear hc; have hv2 := hv.below hb1; clear hb) | (go_at_call 60; refine (within_any _ _ _ _).mono ?_; rw [HK.out]; rintro e w' ⟨rfl, rfl⟩))
          (refine (tbRow_any _ m q _ xs _ hv2 m1 (by omega) (by omega) HQ.out).mono ?_; rintro e w2 ⟨⟨ar, cr, rfl, hsr⟩, hw2⟩; have hbx : Below w1.heap.size w1 w2 := (by rw [hw2]; go_grown); have hb2 := hb1.trans (hbx.mono hb1.size); have e0 := cell_step c0 hbx; have e1 := cell_step c1 hbx; have e2 := cell_step c2 hbx; have hv3 := hv2.below hbx; have HS2 := Lib.hid (hsr _ hv3); clear hw2 hbx hsr)
          go_wp2_with fail
          (refine (addUp_any _ (rowOf xs m q) _ HS2.out (rowOf_pn HP.out)).mono ?_; rw [HS.out]; rintro e w3 ⟨rfl, rfl⟩)
          go_wp2_with fail
          (refine (tbRow_any _ m q _ xs _ hv3 m1 (by omega) (by omega) HQ.out).mono ?_; rintro e w4 ⟨⟨ar9, cr9, rfl, hsr9⟩, hw4⟩; have hbx : Below w2.heap.size w2 w4 := (by rw [hw4]; go_grown); have hb4 := hb2.trans (hbx.mono hb2.size); have HV9 := Lib.hid (hv3.below hbx); clear hw4 hbx)
          go_wp2_with fail
          (refine (given_any s _ (rowOf xs m q) _ (hsr9 _ HV9.out) (by rw [HRL.out]; omega) (fun x hx => HCH.out x (rowOf_mem hx)) (by have := HSF.out; omega) HZ.out).mono ?_; rw [HRL.out]; rintro e w5 ⟨ag, cg, rfl, hog, hbg⟩)
          go_wp2_with fail
          (refine (asRow_yes _ (divAll (rowOf xs m q) s) _ (SlR.own hog) HDL.out HR.out).mono ?_; rintro e w6 ⟨rfl, mq, rfl⟩)
          go_wp2_with fail
          go_ret2
          exact RetSl.mk (f := fun v => .tuple #[v, .bool true]) (ownsRow_base (ownsRow_below hog (Qu.keep ⟨_, rfl⟩)) hb4.size) (below_drewN (hb4.trans (hbg.mono hb4.size)) _)
      · rw [outGiv_no (by rw [hG, decide_eq_false h0]; rfl)]
        obtain rfl : s = 0 := by omega
        have H0 : Hid (decide (0 < 0) = false) := decide_eq_false (by omega)
        clear hd ho hch hpn hk2 hl hs hrl hG hGO h0 k1 k2
        have ho : FloatKind.f32.format.order 0 0 = some .eq := by decide
        go_enter Try.func36, Try.ntmps36
        go_wp2_with (first | (go_at_call 34; refine (implValidTable_any _ _ _ xs _ hv1 HX.out).mono ?_; rw [HD.out]; rintro e w1 ⟨rfl, hb⟩; have hb1 := hb0.trans (hb.mono (by simp)); obtain ⟨hc, -⟩ := bcell hb; have c0 : w1.cell? ⟨w.heap.size, 0, none⟩ = some (.int .i64 (a : Int)) := (by rw [hc _ _ (by simp)]; simp); have c1 : w1.cell? ⟨w.heap.size, 1, none⟩ = some (.int .i64 (m : Int)) := (by rw [hc _ _ (by simp)]; simp); have c2 : w1.cell? ⟨w.heap.size, 2, none⟩ = some v := (by rw [hc _ _ (by simp)]; simp); clear hc; have hv2 := hv.below hb1; clear hb) | (go_at_call 60; refine (within_any _ _ _ _).mono ?_; rw [HK.out]; rintro e w' ⟨rfl, rfl⟩))
        (refine (tbRow_any _ m q _ xs _ hv2 m1 (by omega) (by omega) HQ.out).mono ?_; rintro e w2 ⟨⟨ar, cr, rfl, hsr⟩, hw2⟩; have hbx : Below w1.heap.size w1 w2 := (by rw [hw2]; go_grown); have hb2 := hb1.trans (hbx.mono hb1.size); have e0 := cell_step c0 hbx; have e1 := cell_step c1 hbx; have e2 := cell_step c2 hbx; have hv3 := hv2.below hbx; have HS2 := Lib.hid (hsr _ hv3); clear hw2 hbx hsr)
        go_wp2_with fail
        (refine (addUp_any _ (rowOf xs m q) _ HS2.out (rowOf_pn HP.out)).mono ?_; rw [HS.out]; rintro e w3 ⟨rfl, rfl⟩)
        go_wp2_with fail
        go_ret2
        exact RetSl.none (f := fun v => .tuple #[v, .bool false])  hb2


end Go.Proofs.Ytmocfnpbofeiiaa
