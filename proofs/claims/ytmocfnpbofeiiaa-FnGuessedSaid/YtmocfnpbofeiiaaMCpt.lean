/- The sums of columns. -/
import Derived.Test.YtmocfnpbofeiiaaMTrn
namespace Go.Proofs.Ytmocfnpbofeiiaa
set_option linter.unusedSimpArgs false
set_option linter.unusedVariables false
open Go.RowKit

/-- The sums of the m columns of a rows. -/
def colsOf (xs : List Nat) (m a : Nat) : List Nat := partsOf (turnOf xs m a m) a m
theorem colsOf_length (xs : List Nat) (m a : Nat) : (colsOf xs m a).length = m := partsOf_length _ _ _
theorem turn_pn {xs : List Nat} {a m : Nat} (h : ∀ x ∈ xs, Pn x) (hl : xs.length = a * m) : ∀ x ∈ turnOf xs m a m, Pn x := fun x hx => h x (turnOf_mem (by omega) (Nat.le_refl _) hx)


def out_ColumnPart (i j : Int) (xs : List Nat) : List Nat × Bool := if validTb i j xs && rowB (colsOf xs j.toNat i.toNat) then (colsOf xs j.toNat i.toNat, true) else ([], false)
theorem len_ColumnPart (i j : Int) (hi : I64 i) (hj : I64 j) (xs : List Nat) (_ : ∀ x ∈ xs, x < 4294967296) (_ : xs.length ≤ 1048576) : (out_ColumnPart i j xs).1.length ≤ 1048576 := by
  unfold out_ColumnPart
  split
  · rename_i h
    rw [Bool.and_eq_true] at h
    obtain ⟨_, h2, _⟩ := rowB_one h.2
    show (colsOf xs j.toNat i.toNat).length ≤ _
    omega
  · exact Nat.zero_le _
theorem outCol_no1 {i j : Int} {xs : List Nat} (h : validTb i j xs = false) : out_ColumnPart i j xs = ([], false) := by unfold out_ColumnPart; rw [h]; rfl
theorem outCol_no2 {a m : Nat} {xs : List Nat} (h : rowB (colsOf xs m a) = false) : out_ColumnPart a m xs = ([], false) := by unfold out_ColumnPart; rw [Int.toNat_natCast, Int.toNat_natCast, h]; simp
theorem outCol_yes {a m : Nat} {xs : List Nat} (hv : validTb a m xs = true) (h : rowB (colsOf xs m a) = true) : out_ColumnPart a m xs = (colsOf xs m a, true) := by unfold out_ColumnPart; rw [Int.toNat_natCast, Int.toNat_natCast, h, hv]; simp

set_option maxHeartbeats 4000000 in
theorem impl_ColumnPart (w : World) (i j : Int) (hi : I64 i) (hj : I64 j) (v : Value) (xs : List Nat) (hv : SlR w v (xs.map (Value.float .f32))) (hx : ∀ x ∈ xs, x < 4294967296) (_ : xs.length ≤ 1048576) :
    Calls Try.prog 28 #[.agg #[.int .i64 i, .int .i64 j, v]] w (RetSl w 32 (out_ColumnPart i j xs).1.length ((out_ColumnPart i j xs).1.map (Value.float .f32)) (fun v => .tuple #[v, .bool (out_ColumnPart i j xs).2])) := by
  have HX := Lib.hid hx
  clear hx
  have hb0 : Below w.heap.size w (w.alloc (.cells #[.int .i64 i, .int .i64 j, v] 47)) := by go_grown
  have hv1 := hv.below hb0
  have c0 : World.cell? (w.alloc (.cells #[.int .i64 i, .int .i64 j, v] 47)) ⟨w.heap.size, 0, none⟩ = some (.int .i64 i) := by simp
  have c1 : World.cell? (w.alloc (.cells #[.int .i64 i, .int .i64 j, v] 47)) ⟨w.heap.size, 1, none⟩ = some (.int .i64 j) := by simp
  have c2 : World.cell? (w.alloc (.cells #[.int .i64 i, .int .i64 j, v] 47)) ⟨w.heap.size, 2, none⟩ = some v := by simp
  generalize hd : validTb i j xs = d
  have HD := Lib.hid hd
  cases d
  · rw [outCol_no1 hd]
    clear hd
    go_enter Try.func28, Try.ntmps28
    go_wp2_with (go_at_call 34; refine (implValidTable_any _ _ _ xs _ hv1 HX.out).mono ?_; rw [HD.out]; rintro e w1 ⟨rfl, hb⟩; have e0 := cell_step c0 hb; have e1 := cell_step c1 hb; have e2 := cell_step c2 hb; have hb1 := hb0.trans (hb.mono hb0.size); have hv2 := hv1.below hb; clear hb)
    go_ret2
    exact RetSl.none (f := fun v => .tuple #[v, .bool false])  hb1
  · obtain ⟨a, m, rfl, rfl, a1, a2, m1, m2, hl, ho⟩ := validTb_nat hd
    have hpn : ∀ x ∈ xs, Pn x := fun x hx => (oneB_ch ho x hx).pn
    have HL := Lib.hid hl
    have HP := Lib.hid hpn
    have HT := Lib.hid (turn_pn hpn hl)
    have HTL := Lib.hid (turnOf_length xs m a m)
    have HB : Hid (∀ x ∈ colsOf xs m a, x < 4294967296) := lt_of_le_inf (partsOf_le (turn_pn hpn hl))
    cases hr : rowB (colsOf xs m a)
    · rw [outCol_no2 hr]
      have HR := Lib.hid hr
      clear hd ho hpn hr hl
      go_enter Try.func28, Try.ntmps28
      go_wp2_with (first | (go_at_call 34; refine (implValidTable_any _ _ _ xs _ hv1 HX.out).mono ?_; rw [HD.out]; rintro e w1 ⟨rfl, hb⟩; have e0 := cell_step c0 hb; have e1 := cell_step c1 hb; have e2 := cell_step c2 hb; have hb1 := hb0.trans (hb.mono hb0.size); have hv2 := hv1.below hb; clear hb) | (go_at_call 78; refine (turned_any a m _ xs _ hv2 a1 a2 m1 m2 HL.out).mono ?_; rintro e w2 ⟨at2, ct2, rfl, hop, hb2⟩; have hb3 := hb1.trans (hb2.mono hb1.size)) | (go_at_call 77; refine (parts_any m a _ (turnOf xs m a m) _ (SlR.own hop) HT.out (by omega) a1 (by omega) HTL.out).mono ?_; rintro e w3 ⟨ap, cp, rfl, hop3, hb4⟩; have hb5 := hb3.trans (hb4.mono hb3.size)) | (go_at_call 68; refine (asRow_no _ (colsOf xs m a) _ (SlR.own hop3) HB.out HR.out).mono ?_; rintro e w4 ⟨rfl, mq, rfl⟩))
      go_ret2
      exact RetSl.none (f := fun v => .tuple #[v, .bool false])  (below_drewN hb5 _)
    · rw [outCol_yes hd hr]
      dsimp only
      rw [colsOf_length]
      have HR := Lib.hid hr
      clear hd ho hpn hr hl
      go_enter Try.func28, Try.ntmps28
      go_wp2_with (first | (go_at_call 34; refine (implValidTable_any _ _ _ xs _ hv1 HX.out).mono ?_; rw [HD.out]; rintro e w1 ⟨rfl, hb⟩; have e0 := cell_step c0 hb; have e1 := cell_step c1 hb; have e2 := cell_step c2 hb; have hb1 := hb0.trans (hb.mono hb0.size); have hv2 := hv1.below hb; clear hb) | (go_at_call 78; refine (turned_any a m _ xs _ hv2 a1 a2 m1 m2 HL.out).mono ?_; rintro e w2 ⟨at2, ct2, rfl, hop, hb2⟩; have hb3 := hb1.trans (hb2.mono hb1.size)) | (go_at_call 77; refine (parts_any m a _ (turnOf xs m a m) _ (SlR.own hop) HT.out (by omega) a1 (by omega) HTL.out).mono ?_; rintro e w3 ⟨ap, cp, rfl, hop3, hb4⟩; have hb5 := hb3.trans (hb4.mono hb3.size)) | (go_at_call 68; refine (asRow_yes _ (colsOf xs m a) _ (SlR.own hop3) HB.out HR.out).mono ?_; rintro e w4 ⟨rfl, mq, rfl⟩))
      go_ret2
      exact RetSl.mk (f := fun v => .tuple #[v, .bool true]) (ownsRow_base (ownsRow_below hop3 (Qu.keep ⟨_, rfl⟩)) hb3.size) (below_drewN hb5 _)


end Go.Proofs.Ytmocfnpbofeiiaa
