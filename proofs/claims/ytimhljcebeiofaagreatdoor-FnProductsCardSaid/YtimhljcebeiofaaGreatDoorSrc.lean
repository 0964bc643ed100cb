/- Choices read from bytes: what the laws' inputs are made of. -/
import Derived.Test.YtimhljcebeiofaaGreatDoorBase
import Derived.IntWalk
import Derived.Handy
import Derived.Deep.RegionHeld3
namespace Go.Proofs.YtimhljcebeiofaaGreatDoor
set_option linter.unusedSimpArgs false
set_option linter.unusedVariables false
open Go.RowKit

/-- Bytes as values. -/
abbrev byv (l : List UInt8) : List Value := l.map (fun x : UInt8 => Value.int .u8 (x.toNat : Int))
theorem own_drewS {w : World} {b : Nat} {e : TypeId} {s : Nat} {v : Value} {n : Nat} {xs : List Value} (h : w.ownsRow b e s v n xs) (q : Nat) : (w.drewN q).ownsRow b e s v n xs := ownsRow_below h ((Qu.refl _).drewN q).keep
theorem grown_drewS {a w : World} {row : Option Nat} (h : a.grownBy w row) (n : Nat) : a.grownBy (w.drewN n) row := ⟨h.os, h.tape, h.output, h.size, h.block⟩
/-- A source of choices lies in block b, of the slice sv, with at most m choices made; what lay in w0 is as it was. -/
def Src (w0 : World) (b : Nat) (sv : Value) (m : Nat) (W : World) : Prop :=
  w0.heap.size ≤ b ∧ b < W.heap.size ∧ Below w0.heap.size w0 W ∧ ∃ (k : Nat) (seed : Int), k ≤ m ∧ W.cell? ⟨b, 0, none⟩ = some sv ∧ W.cell? ⟨b, 1, none⟩ = some (.int .i64 (k : Int)) ∧ W.cell? ⟨b, 2, none⟩ = some (.int .u64 seed) ∧ W.frozen? ⟨b, 1, none⟩ = false ∧ W.frozen? ⟨b, 2, none⟩ = false
theorem cat_lists (a b : List UInt8) : (⟨a.toArray⟩ : ByteArray) ++ ⟨b.toArray⟩ = ⟨(a ++ b).toArray⟩ := by
  apply ByteArray.ext
  simp
theorem and_255 (x : Int) (h0 : 0 ≤ x) (hx : x < 18446744073709551616) : ∃ y : Nat, y ≤ 255 ∧ bits .and .u64 x 255 = (y : Int) := by
  obtain ⟨n, rfl⟩ : ∃ n : Nat, x = (n : Int) := ⟨x.toNat, by omega⟩
  have key : (BitVec.ofInt 64 (n : Int) &&& BitVec.ofInt 64 ((255 : Nat) : Int)).toNat = n % 256 := by
    rw [BitVec.toNat_and, BitVec.ofInt_natCast, BitVec.ofInt_natCast, BitVec.toNat_ofNat, BitVec.toNat_ofNat, Nat.mod_eq_of_lt (by omega), Nat.mod_eq_of_lt (by omega)]
    exact Nat.and_two_pow_sub_one_eq_mod n 8
  refine ⟨n % 256, by omega, ?_⟩
  show IntKind.u64.wrap ((BitVec.ofInt 64 (n : Int) &&& BitVec.ofInt 64 ((255 : Nat) : Int)).toNat : Nat) = _
  rw [key, IntKind.wrap_u64]
  omega
theorem pick_255 (z : Int) : ∃ y : Nat, y ≤ 255 ∧ wrap64 (bits .and .u64 (IntKind.u64.wrap z / 1099511627776) 255) = (y : Int) := by
  have e : IntKind.u64.wrap z = z % 18446744073709551616 := IntKind.wrap_u64 z
  have h0 : 0 ≤ IntKind.u64.wrap z := by rw [e]; omega
  have h1 : IntKind.u64.wrap z < 18446744073709551616 := by rw [e]; omega
  obtain ⟨y, hy, hh⟩ := and_255 (IntKind.u64.wrap z / 1099511627776) (by omega) (by omega)
  exact ⟨y, hy, by rw [hh]; exact IntWalk.wrap64_in _ (by omega)⟩
theorem Src.drew {w0 W : World} {b m : Nat} {sv : Value} (h : Src w0 b sv m W) (q : Nat) : Src w0 b sv m (W.drewN q) := by
  obtain ⟨h1, h2, h3, k, s, h4, h5, h6, h7, h8, h9⟩ := h
  exact ⟨h1, by simpa using h2, below_drewN h3 q, k, s, h4, by simpa using h5, by simpa using h6, by simpa using h7, by simpa using h8, by simpa using h9⟩
theorem Src.mono {w0 W : World} {b m m' : Nat} {sv : Value} (h : Src w0 b sv m W) (hm : m ≤ m') : Src w0 b sv m' W := by
  obtain ⟨h1, h2, h3, k, s, h4, r⟩ := h
  exact ⟨h1, h2, h3, k, s, by omega, r⟩
theorem grown_setCell {w W : World} {b : Nat} (hg : w.grownBy W (some b)) (o : Nat) (u : Value) : w.grownBy (W.setCell ⟨b, o, none⟩ u) (some b) :=
  grownBy_trans hg ⟨rfl, rfl, rfl, by simp [World.setCell], fun i hi hne => Below.heap_setCell _ _ _ _ (fun e => hne (congrArg some e))⟩
/-- The source behind a choice. -/
theorem Src.step {w0 W : World} {b m k : Nat} {sv : Value} {seed : Int} (h1 : w0.heap.size ≤ b) (h2 : b < W.heap.size) (h3 : Below w0.heap.size w0 W) (hk : k ≤ m) (c0 : W.cell? ⟨b, 0, none⟩ = some sv) (c1 : W.cell? ⟨b, 1, none⟩ = some (.int .i64 (k : Int))) (c2 : W.cell? ⟨b, 2, none⟩ = some (.int .u64 seed)) (f1 : W.frozen? ⟨b, 1, none⟩ = false) (f2 : W.frozen? ⟨b, 2, none⟩ = false) (p q : Nat) (s : Int) :
    Src w0 b sv (m + 1) ((((W.drewN p).setCell ⟨b, 1, none⟩ (.int .i64 ((k : Int) + 1))).setCell ⟨b, 2, none⟩ (.int .u64 s)).drewN q) ∧ W.grownBy ((((W.drewN p).setCell ⟨b, 1, none⟩ (.int .i64 ((k : Int) + 1))).setCell ⟨b, 2, none⟩ (.int .u64 s)).drewN q) (some b) := by
  have n10 : (⟨b, 1, none⟩ : Addr) ≠ ⟨b, 0, none⟩ := fun e => by cases e
  have n20 : (⟨b, 2, none⟩ : Addr) ≠ ⟨b, 0, none⟩ := fun e => by cases e
  have n12 : (⟨b, 1, none⟩ : Addr) ≠ ⟨b, 2, none⟩ := fun e => by cases e
  have n21 : (⟨b, 2, none⟩ : Addr) ≠ ⟨b, 1, none⟩ := fun e => by cases e
  have c0' : (W.drewN p).cell? ⟨b, 0, none⟩ = some sv := by simpa using c0
  have c1' : (W.drewN p).cell? ⟨b, 1, none⟩ = some (.int .i64 (k : Int)) := by simpa using c1
  have c2' : (W.drewN p).cell? ⟨b, 2, none⟩ = some (.int .u64 seed) := by simpa using c2
  refine ⟨⟨h1, by simpa using h2, below_drewN (((below_drewN h3 p).setCell h1 _).setCell h1 _) q, k + 1, s, by omega, ?_, ?_, ?_, ?_, ?_⟩, grown_drewS (grown_setCell (grown_setCell (grown_drewS (World.grownBy.refl _ _) p) _ _) _ _) q⟩
  · rw [World.cell?_drewN, World.cell?_setCell_other _ _ _ _ n20, World.cell?_setCell_other _ _ _ _ n10]; exact c0'
  · rw [World.cell?_drewN, World.cell?_setCell_other _ _ _ _ n21, World.cell?_setCell_same _ _ _ c1']; rfl
  · rw [World.cell?_drewN]
    exact World.cell?_setCell_same _ _ _ ((World.cell?_setCell_other _ _ _ _ n12).trans c2')
  · simpa using f1
  · simpa using f2

set_option maxRecDepth 4000 in
set_option maxHeartbeats 4000000 in
theorem next_any (w0 W : World) (b m : Nat) (sv : Value) (l : List UInt8) (hl : l.length ≤ 1048576) (hm : m ≤ 1048576) (hv : SlR w0 sv (byv l)) (h : Src w0 b sv m W) :
    Calls Tryz.prog 52 #[.pointer (some ⟨b, 0, none⟩)] W fun e w' => (∃ x : Nat, x ≤ 255 ∧ e = .returned (.int .i64 (x : Int))) ∧ Src w0 b sv (m + 1) w' ∧ W.grownBy w' (some b) := by
  obtain ⟨h1, h2, h3, k, seed, hk, c0, c1, c2, f1, f2⟩ := h
  obtain ⟨a, n, c, rfl, hnl, hnc, hcm, hcell⟩ := SlR.opened (0 : UInt8) hv
  unfold maxLen at hcm
  have HC := Lib.hid hcell
  have hn9 : n ≤ 1048576 := by omega
  clear hcell hv
  by_cases hkn : k < n
  · obtain ⟨g, off, rfl, hc, hgl⟩ := HC.out k hkn
    have hcW := cell_step hc h3
    have hch : (l.getD k 0).toNat ≤ 255 := by have := (l.getD k 0).toNat_lt; omega
    generalize (l.getD k 0).toNat = ch at *
    clear HC hc hnl
    go_enter Tryz.func52, Tryz.ntmps52
    go_wp2
    go_quiet (fail)
    go_wp2
    go_quiet (fail)
    go_wp2
    go_quiet (fail)
    go_wp2
    go_ret
    obtain ⟨s1, s2⟩ := Src.step h1 h2 h3 hk c0 c1 c2 f1 f2 _ _ _
    exact ⟨⟨ch, hch, rfl⟩, s1, s2⟩
  · clear HC hnl
    go_enter Tryz.func52, Tryz.ntmps52
    go_wp2
    go_quiet (fail)
    go_wp2
    go_quiet (fail)
    go_wp2
    go_ret
    obtain ⟨s1, s2⟩ := Src.step h1 h2 h3 hk c0 c1 c2 f1 f2 _ _ _
    obtain ⟨y, hy, hye⟩ := pick_255 _
    exact ⟨⟨y, hy, congrArg (fun q => Ending.returned (.int .i64 q)) hye⟩, s1, s2⟩

set_option maxHeartbeats 1000000 in
theorem pick_any (w0 W : World) (b m n : Nat) (sv : Value) (l : List UInt8) (hl : l.length ≤ 1048576) (hm : m ≤ 1048576) (hn1 : 2 ≤ n) (hn : n ≤ 200) (hv : SlR w0 sv (byv l)) (h : Src w0 b sv m W) :
    Calls Tryz.prog 28 #[.pointer (some ⟨b, 0, none⟩), .int .i64 (n : Int)] W fun e w' => (∃ x : Nat, x < n ∧ e = .returned (.int .i64 (x : Int))) ∧ Src w0 b sv (m + 1) w' ∧ W.grownBy w' (some b) := by
  have HN := Lib.hid (next_any w0 W b m sv l hl hm hv h)
  clear hv h
  have hn0 : ¬ n = 0 := by omega
  go_enter Tryz.func28, Tryz.ntmps28
  go_wp2_with (go_at_call 52; refine HN.out.mono ?_; rintro e w1 ⟨⟨x, hx, rfl⟩, hs, hg⟩)
  go_ret
  exact ⟨⟨x % n, Nat.mod_lt _ (by omega), by rw [Int.natCast_emod]; rfl⟩, hs, hg⟩
theorem pick_one (W : World) (b : Nat) (n : Int) (hn : n ≤ 1) :
    Calls Tryz.prog 28 #[.pointer (some ⟨b, 0, none⟩), .int .i64 n] W fun e w' => e = .returned (.int .i64 0) ∧ W = w' := by
  go_enter Tryz.func28, Tryz.ntmps28
  go_wp2
  go_ret
  exact ⟨rfl, rfl⟩

theorem from_any (w : World) (sv : Value) (l : List UInt8) (hv : SlR w sv (byv l)) :
    Calls Tryz.prog 27 #[sv] w fun e w' => e = .returned (.pointer (some ⟨w.heap.size, 0, none⟩)) ∧ Src w w.heap.size sv 0 w' ∧ w'.heap.size = w.heap.size + 1 := by
  obtain ⟨a, n, c, rfl, hnl, hnc, hcm, -⟩ := SlR.opened (0 : UInt8) hv
  go_enter Tryz.func27, Tryz.ntmps27
  go_wp2
  go_ret
  exact ⟨rfl, ⟨Nat.le_refl _, by simp, by go_grown, 0, 0, Nat.le_refl _, by simp, by simp, by simp, by simp, by simp⟩, by simp⟩
theorem add_atS (b o j : Nat) : (⟨b, o, none⟩ : Addr).add j = ⟨b, o + j, none⟩ := by
  unfold Addr.add
  split
  · rename_i h; rw [h]; rfl
  · rfl
/-- A slice from place k on. -/
theorem SlR.cut {w : World} {a : Option Addr} {n c : Nat} {xs : List Value} (h : SlR w (.slice a n c) xs) (k : Nat) (hk : k ≤ n) : ∃ a', sliced a k n c 1 = .slice a' (n - k) (c - k) ∧ SlR w (.slice a' (n - k) (c - k)) (xs.drop k) := by
  obtain ⟨a', c', e, h1, h2, h3⟩ := h
  simp only [Value.slice.injEq] at e
  obtain ⟨rfl, rfl, rfl⟩ := e
  refine ⟨_, rfl, _, _, by rw [List.length_drop], by rw [List.length_drop]; omega, by omega, fun j u hu => ?_⟩
  rw [List.getElem?_drop] at hu
  obtain ⟨b, off, rfl, hc⟩ := h3 _ u hu
  have hj : k + j < xs.length := (List.getElem?_eq_some_iff.1 hu).1
  refine ⟨b, off + k, ?_, by rw [Nat.add_assoc]; exact hc⟩
  rw [if_neg (by omega), Option.map_some, add_atS, Nat.mul_one]
theorem SlR.cutE {w : World} {a : Option Addr} {n c : Nat} {xs : List Value} (h : SlR w (.slice a n c) xs) (k : Nat) (hk : k ≤ n) : SlR w (.slice (if c = k then a else Option.map (fun x => x.add k) a) (n - k) (c - k)) (xs.drop k) := by
  obtain ⟨a', e, h2⟩ := h.cut k hk
  unfold sliced at e
  rw [← e] at h2
  simpa using h2
theorem cut_bytes {w : World} {a : Option Addr} {n c : Nat} {xs : List Value} (h : SlR w (.slice a n c) xs) (k : Nat) (hk : k ≤ n) : ∃ a', (∀ W, (Instr.slice 22 (.slice a n c) (some (.int .i64 (k : Int))) none none).run Tryz.prog W = .ok (.slice a' (n - k) (c - k)) W) ∧ SlR w (.slice a' (n - k) (c - k)) (xs.drop k) := by
  obtain ⟨a', e, h2⟩ := h.cut k hk
  refine ⟨a', fun W => ?_, h2⟩
  have he : Tryz.prog.elem 22 = 5 := by kernel_rfl
  have ht : Tryz.prog.underlying 22 = some (.slice (Tryz.prog.elem 22)) := by rw [he]; exact Tryz.underlying22
  rw [run_slice_l (ht := ht) (h0 := by omega) (h1 := by omega), he, Tryz.sizeOf5, Int.toNat_natCast, ← e]
  rfl

end Go.Proofs.YtimhljcebeiofaaGreatDoor
