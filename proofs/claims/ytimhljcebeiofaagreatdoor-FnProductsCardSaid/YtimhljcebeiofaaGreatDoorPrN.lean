/- The texts of complex numbers: joined, pieces, ComplexText. -/
import Derived.Test.YtimhljcebeiofaaGreatDoorPrM
import Derived.Test.YtimhljcebeiofaaGreatDoorPrL
import Derived.Deep.AppendLies
import Derived.Deep.RegionLaw
namespace Go.Proofs.YtimhljcebeiofaaGreatDoor
set_option linter.unusedSimpArgs false
set_option linter.unusedVariables false
open Go.RowKit
open Go.Lib
/-- A text as a value. -/
abbrev tV (t : List UInt8) : Value := .string ⟨t.toArray⟩
theorem info_strP : (Tryz.prog.info? 9).map (fun i => (i.zero, i.size, i.bytes)) = some (some (.string ⟨#[]⟩), 1, 16) := by kernel_rfl
/-- Texts joined, or 'none'. -/
def joT (ts : List (List UInt8)) : List UInt8 := if ts.length = 0 then noneL else join ts [44]
theorem joT_tx (cs : List (Nat × Nat)) : joT (cs.map pcL) = txL cs := by unfold joT txL; rw [List.length_map]

set_option maxHeartbeats 1000000 in
theorem joined_any (ts : List (List UInt8)) (v : Value) (w : World) (hv : SlR w v (ts.map tV)) (hl : (join ts [44]).length ≤ 1048576) (hn : ts.length ≤ 1048576) :
    Calls Tryz.prog 37 #[v] w fun e w' => e = .returned (.string ⟨(joT ts).toArray⟩) ∧ Below w.heap.size w w' := by
  obtain ⟨a, n, c, rfl, hnl, hnc, hcm, hcell⟩ := SlR.opened ([] : List UInt8) hv
  by_cases h0 : n = 0
  · subst h0
    have HR : Hid (joT ts = noneL) := Lib.hid (if_pos hnl)
    clear hcell hv hl
    go_enter Tryz.func37, Tryz.ntmps37
    go_wp2
    go_ret
    exact ⟨by rw [HR.out]; rfl, Below.refl _ _⟩
  · obtain ⟨b, off, rfl, -, hbl⟩ := hcell 0 (by omega)
    have HR : Hid (joT ts = join ts [44]) := Lib.hid (if_neg (by omega))
    have HJ : Hid (Calls Tryz.prog 58 #[.slice (some ⟨b, off, none⟩) n c, .string ⟨#[44]⟩] w fun e w' => e = .returned (.string ⟨(join ts [44]).toArray⟩) ∧ Below w.heap.size w w') := Lib.hid (by
      have e1 : ((ts.map (fun t => (⟨t.toArray⟩ : ByteArray))).map (·.data.toList)) = ts := by
        rw [List.map_map]
        conv => rhs; rw [← List.map_id ts]
        exact List.map_congr_left fun t _ => rfl
      have h := Tryz.strings_Join b off c (ts.map (fun t => (⟨t.toArray⟩ : ByteArray))) ⟨#[44]⟩ w (fun j x hx => by
        rw [List.getElem?_map] at hx
        obtain ⟨t, ht, rfl⟩ := Option.map_eq_some_iff.1 hx
        have hj : j < n := by have := (List.getElem?_eq_some_iff.1 ht).1; omega
        obtain ⟨b', off', e, hc', -⟩ := hcell j hj
        simp only [Option.some.injEq, Addr.mk.injEq] at e
        obtain ⟨rfl, rfl, -⟩ := e
        rw [hc', List.getD_eq_getElem?_getD, ht]; rfl) hbl (by rw [List.length_map]; omega) (by rw [List.length_map]; omega) (by rw [e1]; show (join ts [44]).length ≤ _; omega)
      rw [e1, List.length_map, hnl] at h
      exact h)
    have hn0 : ¬ (n : Int) = 0 := by omega
    clear hcell hv hl
    generalize join ts [44] = o at *
    go_enter Tryz.func37, Tryz.ntmps37
    go_wp2_with (go_at_call 58; refine HJ.out.mono ?_; rintro e w1 ⟨rfl, hb⟩)
    go_ret
    exact ⟨by rw [HR.out]; rfl, hb⟩

set_option maxHeartbeats 1000000 in
theorem pieces_any (cs : List (Nat × Nat)) (hw : Wd cs) (hn : cs.length ≤ 1000) (w : World) (hm : ∃ m, w.cell? ⟨4, 0, none⟩ = some (.int .i64 m)) :
    Calls Tryz.prog 38 #[.string ⟨(txL cs).toArray⟩] w fun e w' => (∃ a c, e = .returned (.slice a cs.length c) ∧ SlR w' (.slice a cs.length c) ((cs.map pcL).map tV) ∧ ∀ x, a = some x → w.heap.size ≤ x.block) ∧ Below w.heap.size w w' := by
  by_cases h0 : cs.length = 0
  · obtain rfl : cs = [] := List.eq_nil_of_length_eq_zero h0
    have HR : Hid (txL [] = [110, 111, 110, 101]) := rfl
    rw [HR.out]
    go_enter Tryz.func38, Tryz.ntmps38
    go_wp2
    go_ret
    exact ⟨⟨_, _, rfl, SlR.nil _, fun x hx => by cases hx⟩, Below.refl _ _⟩
  · obtain ⟨hc, hs⟩ := txL_split h0
    have hlen := txL_len hw h0
    have hne := txL_none hw h0
    obtain ⟨m, hm⟩ := hm
    have HS : Hid (Calls Tryz.prog 59 #[.string ⟨(txL cs).toArray⟩, .string ⟨#[44]⟩] w fun e w' => e = .returned (.slice (some ⟨w.heap.size, 0, none⟩) cs.length cs.length) ∧ w' = w.alloc (.cells (((cs.map pcL).map tV)).toArray 9)) := Lib.hid (by
      have h := Tryz.strings_Split ⟨(txL cs).toArray⟩ ⟨#[44]⟩ m w (by show (txL cs).toArray.size < _; simp; omega) hm (by decide)
      have e1 : countB ⟨(txL cs).toArray⟩ ⟨#[44]⟩ = count (txL cs) [44] := rfl
      have e2 : (splitB ⟨#[44]⟩ 0 (count (txL cs) [44]) ⟨(txL cs).toArray⟩).map Value.string = (cs.map pcL).map tV := by
        have h1 := splitB_data ⟨#[44]⟩ 0 (count (txL cs) [44]) ⟨(txL cs).toArray⟩
        rw [show (⟨(txL cs).toArray⟩ : ByteArray).data.toList = txL cs from rfl, show (⟨#[44]⟩ : ByteArray).data.toList = [44] from rfl, hs] at h1
        rw [← h1, List.map_map]
        exact List.map_congr_left fun x _ => rfl
      rw [e1, e2, hc] at h
      exact h)
    have htest : (txL cs == [110, 111, 110, 101]) = false := beq_eq_false_iff_ne.2 hne
    have hp : Below w.heap.size w (w.alloc (.cells (((cs.map pcL).map tV)).toArray 9)) := by go_grown
    have hpl : ((cs.map pcL).map tV).length = cs.length := by simp
    have HP : Hid (SlR (w.alloc (.cells (((cs.map pcL).map tV)).toArray 9)) (.slice (some ⟨w.heap.size, 0, none⟩) cs.length cs.length) ((cs.map pcL).map tV)) := Lib.hid ⟨_, _, by rw [hpl], by omega, by unfold maxLen; omega, fun k u hu => ⟨_, 0, rfl, by
      rw [Nat.zero_add, World.cell?_alloc_at _ _ _ _ rfl]
      simpa using hu⟩⟩
    clear hc hs hlen hne hm
    generalize (cs.map pcL).map tV = vs at *
    generalize txL cs = t at *
    go_enter Tryz.func38, Tryz.ntmps38
    go_wp2_with (go_at_call 59; refine HS.out.mono ?_; rintro e w1 ⟨rfl, rfl⟩)
    go_ret
    exact ⟨⟨_, _, rfl, HP.out, fun x hx => by cases hx; exact Nat.le_refl _⟩, hp⟩

set_option maxRecDepth 4000 in
set_option maxHeartbeats 4000000 in
theorem complexText_any (cs : List (Nat × Nat)) (hw : Wd cs) (hn : cs.length ≤ 256) (v : Value) (w : World) (hv : SlR w v (cs.map cV)) (h : w.cell? ⟨6, 15, none⟩ = some (.int .u8 4)) :
    Calls Tryz.prog 16 #[v] w fun e w' => e = .returned (.tuple #[.string ⟨(txL cs).toArray⟩, .bool true]) ∧ Below w.heap.size w w' := by
  obtain ⟨i0, hi0, hz00, hz01, hz02⟩ := info_parts info_strP
  have hjl : (join (cs.map pcL) [44]).length ≤ 1048576 := by
    by_cases h0 : cs.length = 0
    · obtain rfl : cs = [] := List.eq_nil_of_length_eq_zero h0
      decide
    · have := txL_len hw h0
      unfold txL at this
      rw [if_neg h0] at this
      omega
  have HJ : Hid (∀ (W : World) (u : Value), SlR W u ((cs.map pcL).map tV) → Calls Tryz.prog 37 #[u] W fun e w' => e = .returned (.string ⟨(txL cs).toArray⟩) ∧ Below W.heap.size W w') := Lib.hid fun W u hu => by
    have := joined_any (cs.map pcL) u W hu hjl (by rw [List.length_map]; omega)
    rwa [joT_tx] at this
  have HX : Hid (∀ (W : World) (x : Nat), Below w.heap.size w W → x < 4294967296 → Calls Tryz.prog 36 #[.float .f32 x] W fun e w' => e = .returned (.string ⟨(hex8 (bC x)).toArray⟩) ∧ Below W.heap.size W w') := Lib.hid fun W x hW hx => hexOf_any x hx W (cell_step h hW)
  obtain ⟨a, n, c, rfl, hnl, hnc, hcm, hcell⟩ := SlR.opened ((0, 0) : Nat × Nat) hv
  have HC := Lib.hid hcell
  have HN := Lib.hid hnl
  have HW := Lib.hid hw
  have hn2 : n ≤ 256 := by omega
  have hown0 : (w.alloc (.cells #[] 9)).ownsRow w.heap.size 9 1 (.slice (some ⟨w.heap.size, 0, none⟩) 0 0) 0 [] := World.ownsRow_made w #[] 0 (Nat.le_refl _) (Nat.zero_le _) rfl
  have hb0 : Below w.heap.size w (w.alloc (.cells #[] 9)) := by go_grown
  clear hcell hnl hv h hjl hw
  go_enter Tryz.func16, Tryz.ntmps16
  go_wp2
  go_loopw [4, 6, 13] (fun o _ i wr => ∃ k : Nat, k ≤ n ∧ i = .int .i64 (k : Int) ∧ wr.ownsRow w.heap.size 9 1 o k (((cs.take k).map pcL).map tV) ∧ Below w.heap.size w wr) (fun _ _ i _ => n - intOf i)
  case atStart => exact ⟨0, Nat.zero_le _, rfl, hown0, hb0⟩
  case round =>
    clear hown0 hb0
    obtain ⟨k, hk, rfl, hown, hb⟩ := hrel
    have hbs := hb.size
    by_cases hlt : k < n
    · obtain ⟨bb, off, rfl, hc0, hbl⟩ := HC.out k hlt
      have hcc := (hb.cell (p := ⟨bb, off + k, none⟩) hbl).trans hc0
      have hkl : k < cs.length := by have := HN.out; omega
      have hcd : cs.getD k (0, 0) = cs[k] := by rw [List.getD_eq_getElem?_getD, List.getElem?_eq_getElem hkl, Option.getD_some]
      have hwx := HW.out _ (List.getElem_mem hkl)
      have HS : Hid (((cs.take (k + 1)).map pcL).map tV = ((cs.take k).map pcL).map tV ++ [tV (hex8 (bC cs[k].1) ++ hex8 (bC cs[k].2))]) := Lib.hid (by rw [List.take_succ_eq_append_getElem hkl, List.map_append, List.map_append]; rfl)
      rw [hcd] at hcc
      clear hc0 hcd
      generalize cs[k] = z at *
      obtain ⟨x, y⟩ := z
      have hx : x < 4294967296 := hwx.1
      have hy : y < 4294967296 := hwx.2
      have h1 := HX.out wr x hb hx
      have HA := Lib.hid h1
      have HB := Lib.hid (fun W (hW : Below w.heap.size w W) => HX.out W y hW hy)
      clear h1
      dsimp only at HS
      have hz1 : (hex8 (bC x)).length ≤ 8 := by rw [hex8_len (bC_lt hx)]; omega
      have hz2 : (hex8 (bC y)).length ≤ 8 := by rw [hex8_len (bC_lt hy)]; omega
      clear hwx
      generalize hex8 (bC x) = A at *
      generalize hex8 (bC y) = B at *
      have HV : Hid (tV (A ++ B) = .string (⟨A.toArray⟩ ++ ⟨B.toArray⟩)) := Lib.hid (by rw [ByteArray.mk_append_mk])
      go_wp2_with (first
        | (go_at_call 36; with_reducible refine HA.out.mono ?_; rintro e wA ⟨rfl, hbA⟩; have hbbA := hb.trans (hbA.mono hbs))
        | (go_at_call 36; with_reducible refine (HB.out wA hbbA).mono ?_; rintro e wB ⟨rfl, hbB⟩; have hownB := ownsRow_below (ownsRow_below hown hbA) hbB; have hbbB := hbbA.trans (hbB.mono hbbA.size); have hbsB := hbbB.size)
        | (at_builtin; refine wpList_append_own _ rfl _ _ 61 rfl w.heap.size 9 i0 (.string ⟨#[]⟩) 1 16 Tryz.underlying61 hi0 hz00 hz01 hz02 rfl (by decide) u4 _ _ rfl (hownB.alloc _) ⟨(World.heap wB).size, 0, none⟩ 1 1 [.string (⟨A.toArray⟩ ++ ⟨B.toArray⟩)] rfl rfl (cell_one_new _ _ _) (one_oneCell rfl) (by unfold maxLen; omega) (by omega) (by simp only [World.size_alloc]; have := hbbB.size; omega) ?_; intro v1 w3 hown3 hgx _; have hb4 := app_below hbbB (by have := hbbB.size; omega) _ hgx hownB (by omega)))
      rw [← HV.out, ← HS.out] at hown3
      go_roundw
      case rel => exact ⟨k + 1, by omega, by go_num, hown3, hb4⟩
      case measure => simp [intOf]; omega
    · obtain rfl : n = k := by omega
      rw [List.take_of_length_le (by have := HN.out; omega)] at hown
      have HJ2 := Lib.hid (HJ.out wr _ (SlR.own hown))
      go_wp2_with (go_at_call 37; refine HJ2.out.mono ?_; rintro e w5 ⟨rfl, hb5⟩)
      go_ret2
      exact ⟨rfl, hb.trans (hb5.mono hbs)⟩

end Go.Proofs.YtimhljcebeiofaaGreatDoor
