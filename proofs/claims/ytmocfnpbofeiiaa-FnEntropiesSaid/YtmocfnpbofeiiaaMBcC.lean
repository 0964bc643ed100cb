/- Choices read from bytes: what the laws' inputs are made of. -/
import Derived.Test.YtmocfnpbofeiiaaMBase
import Derived.IntWalk
import Derived.Handy
import Derived.Deep.RegionHeld3
import Derived.Test.YtmocfnpbofeiiaaMGiv
namespace Go.Proofs.Ytmocfnpbofeiiaa
set_option linter.unusedSimpArgs false
set_option linter.unusedVariables false
open Go.RowKit

/-- Bytes as values. -/
abbrev byv (l : List UInt8) : List Value := l.map (fun x : UInt8 => Value.int .u8 (x.toNat : Int))
theorem own_drewS {w : World} {b : Nat} {e : TypeId} {s : Nat} {v : Value} {n : Nat} {xs : List Value} (h : w.ownsRow b e s v n xs) (q : Nat) : (w.drewN q).ownsRow b e s v n xs := ownsRow_below h ((Qu.refl _).drewN q).keep
theorem grown_drewS {a w : World} {row : Option Nat} (h : a.grownBy w row) (n : Nat) : a.grownBy (w.drewN n) row := ⟨h.os, h.tape, h.output, h.size, h.block⟩
/-- A source of choices lies in block b, of the slice sv, with at most m choices made; what lay in w0 is as it was. -/
def Src (w0 : World) (b : Nat) (sv : Value) (m : Nat) (W : World) : Prop :=
  w0.heap.size ≤ b ∧ b < W.heap.size ∧ Below w0.heap.size w0 W ∧ ∃ (k : Nat) (seed : Int), k ≤ m ∧ W.cell? ⟨b, 0, none⟩ = some sv ∧ W.cell? ⟨b, 1, none⟩ = some (.int .i64 (k : Int)) ∧ W.cell? ⟨b, 2, none⟩ = some (.int .u64 seed) ∧ W.frozen? ⟨b, 1, none⟩ = false ∧ W.frozen? ⟨b, 2, none⟩ = false
theorem cat_lists (a b : List UInt8) : (⟨a.toArray⟩ : ByteArray) ++ ⟨b.toArray⟩ = ⟨(a ++ b).toArray⟩ := by
  apply ByteArray.ext
  simp
theorem and_255 (x : Int) (h0 : 0 ≤ x) (hx : x < 18446744073709551616) : ∃ y : Nat, y ≤ 255 ∧ bits .and .u64 x 255 = (y : Int) := by
  obtain ⟨n, rfl⟩ : ∃ n : Nat, x = (n : Int) := ⟨x.toNat, by omega⟩
  have key : (BitVec.ofInt 64 (n : Int) &&& BitVec.ofInt 64 ((255 : Nat) : Int)).toNat = n % 256 := by
    rw [BitVec.toNat_and, BitVec.ofInt_natCast, BitVec.ofInt_natCast, BitVec.toNat_ofNat, BitVec.toNat_ofNat, Nat.mod_eq_of_lt (by omega), Nat.mod_eq_of_lt (by omega)]
    exact Nat.and_two_pow_sub_one_eq_mod n 8
  refine ⟨n % 256, by omega, ?_⟩
  show IntKind.u64.wrap ((BitVec.ofInt 64 (n : Int) &&& BitVec.ofInt 64 ((255 : Nat) : Int)).toNat : Nat) = _
  rw [key, IntKind.wrap_u64]
  omega
theorem pick_255 (z : Int) : ∃ y : Nat, y ≤ 255 ∧ wrap64 (bits .and .u64 (IntKind.u64.wrap z / 1099511627776) 255) = (y : Int) := by
  have e : IntKind.u64.wrap z = z % 18446744073709551616 := IntKind.wrap_u64 z
  have h0 : 0 ≤ IntKind.u64.wrap z := by rw [e]; omega
  have h1 : IntKind.u64.wrap z < 18446744073709551616 := by rw [e]; omega
  obtain ⟨y, hy, hh⟩ := and_255 (IntKind.u64.wrap z / 1099511627776) (by omega) (by omega)
  exact ⟨y, hy, by rw [hh]; exact IntWalk.wrap64_in _ (by omega)⟩
theorem Src.drew {w0 W : World} {b m : Nat} {sv : Value} (h : Src w0 b sv m W) (q : Nat) : Src w0 b sv m (W.drewN q) := by
  obtain ⟨h1, h2, h3, k, s, h4, h5, h6, h7, h8, h9⟩ := h
  exact ⟨h1, by simpa using h2, below_drewN h3 q, k, s, h4, by simpa using h5, by simpa using h6, by simpa using h7, by simpa using h8, by simpa using h9⟩
theorem Src.mono {w0 W : World} {b m m' : Nat} {sv : Value} (h : Src w0 b sv m W) (hm : m ≤ m') : Src w0 b sv m' W := by
  obtain ⟨h1, h2, h3, k, s, h4, r⟩ := h
  exact ⟨h1, h2, h3, k, s, by omega, r⟩
theorem grown_setCell {w W : World} {b : Nat} (hg : w.grownBy W (some b)) (o : Nat) (u : Value) : w.grownBy (W.setCell ⟨b, o, none⟩ u) (some b) :=
  grownBy_trans hg ⟨rfl, rfl, rfl, by simp [World.setCell], fun i hi hne => Below.heap_setCell _ _ _ _ (fun e => hne (congrArg some e))⟩
/-- The source behind a choice. -/
theorem Src.step {w0 W : World} {b m k : Nat} {sv : Value} {seed : Int} (h1 : w0.heap.size ≤ b) (h2 : b < W.heap.size) (h3 : Below w0.heap.size w0 W) (hk : k ≤ m) (c0 : W.cell? ⟨b, 0, none⟩ = some sv) (c1 : W.cell? ⟨b, 1, none⟩ = some (.int .i64 (k : Int))) (c2 : W.cell? ⟨b, 2, none⟩ = some (.int .u64 seed)) (f1 : W.frozen? ⟨b, 1, none⟩ = false) (f2 : W.frozen? ⟨b, 2, none⟩ = false) (p q : Nat) (s : Int) :
    Src w0 b sv (m + 1) ((((W.drewN p).setCell ⟨b, 1, none⟩ (.int .i64 ((k : Int) + 1))).setCell ⟨b, 2, none⟩ (.int .u64 s)).drewN q) ∧ W.grownBy ((((W.drewN p).setCell ⟨b, 1, none⟩ (.int .i64 ((k : Int) + 1))).setCell ⟨b, 2, none⟩ (.int .u64 s)).drewN q) (some b) := by
  have n10 : (⟨b, 1, none⟩ : Addr) ≠ ⟨b, 0, none⟩ := fun e => by cases e
  have n20 : (⟨b, 2, none⟩ : Addr) ≠ ⟨b, 0, none⟩ := fun e => by cases e
  have n12 : (⟨b, 1, none⟩ : Addr) ≠ ⟨b, 2, none⟩ := fun e => by cases e
  have n21 : (⟨b, 2, none⟩ : Addr) ≠ ⟨b, 1, none⟩ := fun e => by cases e
  have c0' : (W.drewN p).cell? ⟨b, 0, none⟩ = some sv := by simpa using c0
  have c1' : (W.drewN p).cell? ⟨b, 1, none⟩ = some (.int .i64 (k : Int)) := by simpa using c1
  have c2' : (W.drewN p).cell? ⟨b, 2, none⟩ = some (.int .u64 seed) := by simpa using c2
  refine ⟨⟨h1, by simpa using h2, below_drewN (((below_drewN h3 p).setCell h1 _).setCell h1 _) q, k + 1, s, by omega, ?_, ?_, ?_, ?_, ?_⟩, grown_drewS (grown_setCell (grown_setCell (grown_drewS (World.grownBy.refl _ _) p) _ _) _ _) q⟩
  · rw [World.cell?_drewN, World.cell?_setCell_other _ _ _ _ n20, World.cell?_setCell_other _ _ _ _ n10]; exact c0'
  · rw [World.cell?_drewN, World.cell?_setCell_other _ _ _ _ n21, World.cell?_setCell_same _ _ _ c1']; rfl
  · rw [World.cell?_drewN]
    exact World.cell?_setCell_same _ _ _ ((World.cell?_setCell_other _ _ _ _ n12).trans c2')
  · simpa using f1
  · simpa using f2

set_option maxRecDepth 4000 in
set_option maxHeartbeats 4000000 in
theorem next_any (w0 W : World) (b m : Nat) (sv : Value) (l : List UInt8) (hl : l.length ≤ 1048576) (hm : m ≤ 1048576) (hv : SlR w0 sv (byv l)) (h : Src w0 b sv m W) :
    Calls Try.prog 133 #[.pointer (some ⟨b, 0, none⟩)] W fun e w' => (∃ x : Nat, x ≤ 255 ∧ e = .returned (.int .i64 (x : Int))) ∧ Src w0 b sv (m + 1) w' ∧ W.grownBy w' (some b) := by
  obtain ⟨h1, h2, h3, k, seed, hk, c0, c1, c2, f1, f2⟩ := h
  obtain ⟨a, n, c, rfl, hnl, hnc, hcm, hcell⟩ := SlR.opened (0 : UInt8) hv
  unfold maxLen at hcm
  have HC := Lib.hid hcell
  have hn9 : n ≤ 1048576 := by omega
  clear hcell hv
  by_cases hkn : k < n
  · obtain ⟨g, off, rfl, hc, hgl⟩ := HC.out k hkn
    have hcW := cell_step hc h3
    have hch : (l.getD k 0).toNat ≤ 255 := by have := (l.getD k 0).toNat_lt; omega
    generalize (l.getD k 0).toNat = ch at *
    clear HC hc hnl
    go_enter Try.func133, Try.ntmps133
    go_wp2
    go_quiet (fail)
    go_wp2
    go_quiet (fail)
    go_wp2
    go_quiet (fail)
    go_wp2
    go_ret
    obtain ⟨s1, s2⟩ := Src.step h1 h2 h3 hk c0 c1 c2 f1 f2 _ _ _
    exact ⟨⟨ch, hch, rfl⟩, s1, s2⟩
  · clear HC hnl
    go_enter Try.func133, Try.ntmps133
    go_wp2
    go_quiet (fail)
    go_wp2
    go_quiet (fail)
    go_wp2
    go_ret
    obtain ⟨s1, s2⟩ := Src.step h1 h2 h3 hk c0 c1 c2 f1 f2 _ _ _
    obtain ⟨y, hy, hye⟩ := pick_255 _
    exact ⟨⟨y, hy, congrArg (fun q => Ending.returned (.int .i64 q)) hye⟩, s1, s2⟩

set_option maxHeartbeats 1000000 in
theorem pick_any (w0 W : World) (b m n : Nat) (sv : Value) (l : List UInt8) (hl : l.length ≤ 1048576) (hm : m ≤ 1048576) (hn1 : 2 ≤ n) (hn : n ≤ 200) (hv : SlR w0 sv (byv l)) (h : Src w0 b sv m W) :
    Calls Try.prog 108 #[.pointer (some ⟨b, 0, none⟩), .int .i64 (n : Int)] W fun e w' => (∃ x : Nat, x < n ∧ e = .returned (.int .i64 (x : Int))) ∧ Src w0 b sv (m + 1) w' ∧ W.grownBy w' (some b) := by
  have HN := Lib.hid (next_any w0 W b m sv l hl hm hv h)
  clear hv h
  have hn0 : ¬ n = 0 := by omega
  go_enter Try.func108, Try.ntmps108
  go_wp2_with (go_at_call 133; refine HN.out.mono ?_; rintro e w1 ⟨⟨x, hx, rfl⟩, hs, hg⟩)
  go_ret
  exact ⟨⟨x % n, Nat.mod_lt _ (by omega), by rw [Int.natCast_emod]; rfl⟩, hs, hg⟩
theorem pick_one (W : World) (b : Nat) (n : Int) (hn : n ≤ 1) :
    Calls Try.prog 108 #[.pointer (some ⟨b, 0, none⟩), .int .i64 n] W fun e w' => e = .returned (.int .i64 0) ∧ W = w' := by
  go_enter Try.func108, Try.ntmps108
  go_wp2
  go_ret
  exact ⟨rfl, rfl⟩

theorem from_any (w : World) (sv : Value) (l : List UInt8) (hv : SlR w sv (byv l)) :
    Calls Try.prog 58 #[sv] w fun e w' => e = .returned (.pointer (some ⟨w.heap.size, 0, none⟩)) ∧ Src w w.heap.size sv 0 w' ∧ w'.heap.size = w.heap.size + 1 := by
  obtain ⟨a, n, c, rfl, hnl, hnc, hcm, -⟩ := SlR.opened (0 : UInt8) hv
  go_enter Try.func58, Try.ntmps58
  go_wp2
  go_ret
  exact ⟨rfl, ⟨Nat.le_refl _, by simp, by go_grown, 0, 0, Nat.le_refl _, by simp, by simp, by simp, by simp, by simp⟩, by simp⟩

theorem r8Long_any (v u : Value) (l m : List UInt8) (w : World) (hv : SlR w v (byv l)) (hu : SlR w u (byv m)) :
    Calls Try.prog 8 #[v, u] w fun e w' => e = .returned (.bool (decide (48 < l.length) || decide (48 < m.length))) ∧ w = w' := by
  obtain ⟨a, n, c, rfl, hnl, -, -, -⟩ := SlR.opened (0 : UInt8) hv
  obtain ⟨a', n', c', rfl, hnl', -, -, -⟩ := SlR.opened (0 : UInt8) hu
  rw [hnl, hnl']
  clear hv hu hnl hnl'
  by_cases h : 48 < n
  · go_enter Try.func8, Try.ntmps8
    go_wp2
    go_ret
    exact ⟨ret_bool (by simp [h]), rfl⟩
  · by_cases h' : 48 < n'
    · go_enter Try.func8, Try.ntmps8
      go_wp2
      go_ret
      exact ⟨ret_bool (by simp [h, h']; omega), rfl⟩
    · go_enter Try.func8, Try.ntmps8
      go_wp2
      go_ret
      exact ⟨ret_bool (by simp [h, h']; omega), rfl⟩

/-- What r8At says. -/
def at8 (l : List UInt8) (k n : Nat) : Nat := if n ≤ 1 ∨ l.length ≤ k then 0 else (l.getD k 0).toNat % n
theorem at8_lt (l : List UInt8) (k n : Nat) (h : 1 ≤ n) : at8 l k n < n := by
  unfold at8
  split
  · omega
  · exact Nat.mod_lt _ (by omega)

set_option maxHeartbeats 1000000 in
theorem r8At_any (v : Value) (l : List UInt8) (k n : Nat) (w : World) (hl : l.length ≤ 1048576) (hk : k ≤ 1048576) (hn : n ≤ 1000) (hv : SlR w v (byv l)) :
    Calls Try.prog 9 #[v, .int .i64 (k : Int), .int .i64 (n : Int)] w fun e w' => e = .returned (.int .i64 ((at8 l k n : Nat) : Int)) ∧ w = w' := by
  obtain ⟨a, m, c, rfl, hnl, hmc, hcm, hcell⟩ := SlR.opened (0 : UInt8) hv
  have hm : m ≤ 1048576 := by omega
  by_cases h1 : n ≤ 1
  · have HR : Hid (at8 l k n = 0) := Lib.hid (if_pos (.inl h1))
    clear hcell hv hnl
    go_enter Try.func9, Try.ntmps9
    go_wp2
    go_ret
    exact ⟨by rw [HR.out]; rfl, rfl⟩
  · by_cases h2 : m ≤ k
    · have HR : Hid (at8 l k n = 0) := Lib.hid (if_pos (.inr (by omega)))
      clear hcell hv hnl
      go_enter Try.func9, Try.ntmps9
      go_wp2
      go_ret
      exact ⟨by rw [HR.out]; rfl, rfl⟩
    · obtain ⟨g, off, rfl, hc, hgl⟩ := hcell k (by omega)
      have HR : Hid (at8 l k n = (l.getD k 0).toNat % n) := Lib.hid (if_neg (by omega))
      have hch : (l.getD k 0).toNat ≤ 255 := by have := (l.getD k 0).toNat_lt; omega
      generalize (l.getD k 0).toNat = ch at *
      have hn0 : ¬ n = 0 := by omega
      clear hcell hv hnl
      go_enter Try.func9, Try.ntmps9
      go_wp2
      go_ret
      exact ⟨by rw [HR.out, Int.natCast_emod]; rfl, rfl⟩
theorem add_atS (b o j : Nat) : (⟨b, o, none⟩ : Addr).add j = ⟨b, o + j, none⟩ := by
  unfold Addr.add
  split
  · rename_i h; rw [h]; rfl
  · rfl
/-- A slice from place k on. -/
theorem SlR.cut {w : World} {a : Option Addr} {n c : Nat} {xs : List Value} (h : SlR w (.slice a n c) xs) (k : Nat) (hk : k ≤ n) : ∃ a', sliced a k n c 1 = .slice a' (n - k) (c - k) ∧ SlR w (.slice a' (n - k) (c - k)) (xs.drop k) := by
  obtain ⟨a', c', e, h1, h2, h3⟩ := h
  simp only [Value.slice.injEq] at e
  obtain ⟨rfl, rfl, rfl⟩ := e
  refine ⟨_, rfl, _, _, by rw [List.length_drop], by rw [List.length_drop]; omega, by omega, fun j u hu => ?_⟩
  rw [List.getElem?_drop] at hu
  obtain ⟨b, off, rfl, hc⟩ := h3 _ u hu
  have hj : k + j < xs.length := (List.getElem?_eq_some_iff.1 hu).1
  refine ⟨b, off + k, ?_, by rw [Nat.add_assoc]; exact hc⟩
  rw [if_neg (by omega), Option.map_some, add_atS, Nat.mul_one]
theorem SlR.cutE {w : World} {a : Option Addr} {n c : Nat} {xs : List Value} (h : SlR w (.slice a n c) xs) (k : Nat) (hk : k ≤ n) : SlR w (.slice (if c = k then a else Option.map (fun x => x.add k) a) (n - k) (c - k)) (xs.drop k) := by
  obtain ⟨a', e, h2⟩ := h.cut k hk
  unfold sliced at e
  rw [← e] at h2
  simpa using h2
theorem cut_bytes {w : World} {a : Option Addr} {n c : Nat} {xs : List Value} (h : SlR w (.slice a n c) xs) (k : Nat) (hk : k ≤ n) : ∃ a', (∀ W, (Instr.slice 22 (.slice a n c) (some (.int .i64 (k : Int))) none none).run Try.prog W = .ok (.slice a' (n - k) (c - k)) W) ∧ SlR w (.slice a' (n - k) (c - k)) (xs.drop k) := by
  obtain ⟨a', e, h2⟩ := h.cut k hk
  refine ⟨a', fun W => ?_, h2⟩
  have he : Try.prog.elem 22 = 5 := by kernel_rfl
  have ht : Try.prog.underlying 22 = some (.slice (Try.prog.elem 22)) := by rw [he]; exact Try.underlying22
  rw [run_slice_l (ht := ht) (h0 := by omega) (h1 := by omega), he, Try.sizeOf5, Int.toNat_natCast, ← e]
  rfl

end Go.Proofs.Ytmocfnpbofeiiaa

/- Rows of chances drawn from bytes (B10Chances). -/
namespace Go.Proofs.Ytmocfnpbofeiiaa
set_option linter.unusedSimpArgs false
set_option linter.unusedVariables false
open Go.RowKit
open Ieee
theorem grown_then {a b c : World} {row : Option Nat} (h : a.grownBy b row) (k : Below a.heap.size b c) : a.grownBy c row :=
  ⟨k.os.trans h.os, k.tape.trans h.tape, k.output.trans h.output, Nat.le_trans h.size k.size, fun i hi hne => (k.block i hi).trans (h.block i hi hne)⟩
theorem Src.below {w0 W W' : World} {b m : Nat} {sv : Value} (h : Src w0 b sv m W) (hb : Below (b + 1) W W') : Src w0 b sv m W' := by
  obtain ⟨h1, h2, h3, k, s, h4, h5, h6, h7, h8, h9⟩ := h
  have hs := hb.size
  exact ⟨h1, by omega, h3.trans (hb.mono (by omega)), k, s, h4, (hb.cell (p := ⟨b, 0, none⟩) (Nat.lt_succ_self b)).trans h5, (hb.cell (p := ⟨b, 1, none⟩) (Nat.lt_succ_self b)).trans h6, (hb.cell (p := ⟨b, 2, none⟩) (Nat.lt_succ_self b)).trans h7, (hb.frozen (Nat.lt_succ_self b)).trans h8, (hb.frozen (Nat.lt_succ_self b)).trans h9⟩
/-- A whole number as a single word. -/
def fw (k : Nat) : Nat := floatOfInt .f32 (k : Int)
def fwV (ks : List Nat) : List Value := (ks.map fw).map (Value.float .f32)
theorem fwV_snoc (ks : List Nat) (k : Nat) : fwV (ks ++ [k]) = fwV ks ++ [.float .f32 (fw k)] := by simp [fwV]
theorem fwV_length (ks : List Nat) : (fwV ks).length = ks.length := by simp [fwV]
theorem fw_add : ∀ a : Nat, a < 60 → ∀ b : Nat, b < 7 → (floatBits .add .f32 (fw a) (fw b)).isSome = true ∧ fA .add .f32 (fw a) (fw b) = fw (a + b) := by decide +kernel
/-- The row of quotients. -/
def rowK (ks : List Nat) : List Nat := ks.map fun k => fA .quo .f32 (fw k) (fw ks.sum)
theorem fw_quo : ∀ s : Nat, s < 60 → 1 ≤ s → ∀ k : Nat, k < 7 → (floatBits .quo .f32 (fw k) (fw s)).isSome = true := by decide +kernel
/-- The list while it is divided: the first i are done. -/
def midV (ks : List Nat) (i : Nat) : List Value := ((rowK ks).take i ++ (ks.map fw).drop i).map (Value.float .f32)
theorem midV_length (ks : List Nat) {i : Nat} (hi : i ≤ ks.length) : (midV ks i).length = ks.length := by
  simp [midV, rowK]; omega
theorem midV_zero (ks : List Nat) : midV ks 0 = fwV ks := by simp [midV, fwV]
theorem midV_end (ks : List Nat) : midV ks ks.length = (rowK ks).map (Value.float .f32) := by
  unfold midV
  rw [List.take_of_length_le (by simp [rowK]), List.drop_of_length_le (by simp), List.append_nil]
theorem midV_at (ks : List Nat) {i : Nat} (hi : i < ks.length) : (midV ks i)[i]? = some (.float .f32 (fw (ks[i]?.getD 0))) := by
  have hl : ((rowK ks).take i).length = i := by simp [rowK]; omega
  simp only [midV, List.getElem?_map]
  rw [List.getElem?_append_right (by omega), hl, Nat.sub_self, List.getElem?_drop, Nat.add_zero, List.getElem?_map, List.getElem?_eq_getElem hi]
  rfl
theorem midV_set (ks : List Nat) {i : Nat} (hi : i < ks.length) : (midV ks i).set i (.float .f32 (fA .quo .f32 (fw (ks[i]?.getD 0)) (fw ks.sum))) = midV ks (i + 1) := by
  have hl : ((rowK ks).take i).length = i := by simp [rowK]; omega
  simp only [midV]
  rw [← List.map_set]
  congr 1
  rw [List.set_append, if_neg (by omega), hl, Nat.sub_self]
  have hd : (ks.map fw).drop i = fw (ks[i]?.getD 0) :: (ks.map fw).drop (i + 1) := by
    rw [List.drop_eq_getElem_cons (by simpa using hi), List.getElem_map, List.getElem?_eq_getElem hi]
    rfl
  rw [hd, List.set_cons_zero]
  have ht : (rowK ks).take (i + 1) = (rowK ks).take i ++ [fA .quo .f32 (fw (ks[i]?.getD 0)) (fw ks.sum)] := by
    rw [List.take_succ_eq_append_getElem (by simpa [rowK] using hi)]
    congr 1
    simp only [rowK, List.getElem_map]
    rw [List.getElem?_eq_getElem hi]
    rfl
  rw [ht, List.append_assoc]
  rfl

set_option maxRecDepth 4000 in
set_option maxHeartbeats 4000000 in
theorem b10Chances_any (w0 W : World) (b m n : Nat) (sv : Value) (l : List UInt8) (hl : l.length ≤ 1048576) (hm : m ≤ 1000) (hn1 : 1 ≤ n) (hn : n ≤ 8) (hv : SlR w0 sv (byv l)) (h : Src w0 b sv m W) :
    Calls Try.prog 70 #[.pointer (some ⟨b, 0, none⟩), .int .i64 (n : Int)] W fun e w' => (∃ (ks : List Nat) (a : Option Addr) (c : Nat), ks.length = n ∧ (∀ k ∈ ks, 1 ≤ k ∧ k ≤ 6) ∧ e = .returned (.slice a n c) ∧ w'.ownsRow W.heap.size 32 1 (.slice a n c) n ((rowK ks).map (Value.float .f32))) ∧ Src w0 b sv (m + n) w' ∧ W.grownBy w' (some b) := by
  obtain ⟨i0, hi0, hz00, hz01, hz02⟩ := info_parts info_Float32S
  have HP : Hid (∀ (W' : World) (j : Nat), j ≤ 2000 → Src w0 b sv j W' → Calls Try.prog 108 #[.pointer (some ⟨b, 0, none⟩), .int .i64 ((6 : Nat) : Int)] W' fun e w' => (∃ x : Nat, x < 6 ∧ e = .returned (.int .i64 (x : Int))) ∧ Src w0 b sv (j + 1) w' ∧ W'.grownBy w' (some b)) := Lib.hid fun W' j hj hs => pick_any w0 W' b j 6 sv l hl (by omega) (by omega) (by omega) hv hs
  have hbW : b < W.heap.size := h.2.1
  clear hv
  have hown0 : (W.alloc (.cells #[] 32)).ownsRow W.heap.size 32 1 (.slice (some ⟨W.heap.size, 0, none⟩) 0 0) 0 [] := World.ownsRow_made W #[] 0 (Nat.le_refl _) (Nat.zero_le _) rfl
  have hb0 : Below W.heap.size W (W.alloc (.cells #[] 32)) := by go_grown
  have hs0 := h.below (hb0.mono (by omega))
  have hg0 : W.grownBy (W.alloc (.cells #[] 32)) (some b) := grown_then (World.grownBy.refl _ _) hb0
  clear h hb0
  have HSN : Hid (∀ ks k, fwV (ks ++ [k]) = fwV ks ++ [.float .f32 (fw k)]) := fwV_snoc
  have HAD : Hid (∀ a : Nat, a < 60 → ∀ b : Nat, b < 7 → (floatBits .add .f32 (fw a) (fw b)).isSome = true ∧ fA .add .f32 (fw a) (fw b) = fw (a + b)) := fw_add
  have HQU : Hid (∀ s : Nat, s < 60 → 1 ≤ s → ∀ k : Nat, k < 7 → (floatBits .quo .f32 (fw k) (fw s)).isSome = true) := fw_quo
  have HMA : Hid (∀ (ks : List Nat) (i : Nat), i < ks.length → (midV ks i)[i]? = some (.float .f32 (fw (ks[i]?.getD 0)))) := fun ks i hi => midV_at ks hi
  have HMS : Hid (∀ (ks : List Nat) (i : Nat), i < ks.length → (midV ks i).set i (.float .f32 (fA .quo .f32 (fw (ks[i]?.getD 0)) (fw ks.sum))) = midV ks (i + 1)) := fun ks i hi => midV_set ks hi
  have HFO : Hid (∀ x : Nat, floatOfInt .f32 (1 + (x : Int)) = fw (1 + x)) := fun x => congrArg (floatOfInt .f32) (show (1 + (x : Int)) = ((1 + x : Nat) : Int) by omega)
  have HF0 : Hid ((0 : Nat) = fw 0) := Lib.hid (by decide +kernel)
  have HM0 : Hid (∀ ks, midV ks 0 = fwV ks) := midV_zero
  have HME : Hid (∀ ks : List Nat, ks.length = n → midV ks n = (rowK ks).map (Value.float .f32)) := fun ks h => by rw [← h]; exact midV_end ks
  generalize fw = F at *
  go_enter Try.func70, Try.ntmps70
  go_wp2
  go_loopw [5, 6, 7] (fun v s q wr => ∃ (ks : List Nat), ks.length ≤ n ∧ s = .float .f32 (F ks.sum) ∧ q = .int .i64 (ks.length : Int) ∧ Hid (∀ k ∈ ks, 1 ≤ k ∧ k ≤ 6) ∧ Hid (ks.sum ≤ 6 * ks.length) ∧ wr.ownsRow W.heap.size 32 1 v ks.length (fwV ks) ∧ Src w0 b sv (m + ks.length) wr ∧ W.grownBy wr (some b)) (fun _ _ q _ => n - (intOf q).toNat)
  case atStart => exact ⟨[], by simp, congrArg _ HF0.out, rfl, Lib.hid (fun x hx => by cases hx), Lib.hid (by simp), hown0, hs0, hg0⟩
  case round =>
    clear hown0 hs0 hg0
    obtain ⟨ks, hk, rfl, rfl, hks, hsum, hown, hs, hg⟩ := hrel
    have hgs := hg.size
    by_cases hlt : ks.length < n
    · have hsum' := hsum.out
      go_wp2_with (first
        | (go_at_call 108; refine (HP.out wr (m + ks.length) (by omega) hs).mono ?_; rintro e w1 ⟨⟨x, hx, rfl⟩, hs1, hg1⟩; have hown1 := own_apart (u := .slice (some ⟨b, 0, none⟩) 0 0) hown hg1 (fun k hk => by simp [Value.ownBlock] at hk; omega); have hx2 := HFO.out x; have hG1 := grownBy_trans hg hg1; have hbr := Below.refl W.heap.size w1; have hG1s := hG1.size; obtain ⟨q1, q2⟩ := HAD.out ks.sum (by omega) (1 + x) (by omega))
        | (at_builtin; refine wpList_append_own _ rfl _ _ 25 rfl W.heap.size 32 i0 (.float .f32 0) 1 4 Try.underlying25 hi0 hz00 hz01 hz02 rfl (by decide) u5 _ _ rfl (hown1.alloc _) ⟨(World.heap w1).size, 0, none⟩ 1 1 [.float .f32 (F (1 + x))] rfl rfl (cell_one_new _ _ _) (one_oneCell rfl) (by unfold maxLen; omega) (by omega) (by simp only [World.size_alloc]; have := hbr.size; omega) ?_; intro v1 w2 hown2 hgx _; have hb2 := app_below hbr (by have := hbr.size; omega) _ hgx hown1 (by omega)))
      have hG2 := grown_then hG1 hb2
      have hs2 := hs1.below (hb2.mono (show b + 1 ≤ W.heap.size by omega))
      rw [← HSN.out] at hown2
      go_roundw
      case rel =>
        refine ⟨ks ++ [1 + x], by rw [List.length_append, List.length_singleton]; omega, ?_, by rw [List.length_append, List.length_singleton]; go_num, Lib.hid (fun k hk => ?_), Lib.hid ?_, by rw [List.length_append, List.length_singleton]; exact hown2, by rw [List.length_append, List.length_singleton]; exact hs2, hG2⟩
        · rw [List.sum_append, List.sum_singleton]
        · rcases List.mem_append.1 hk with h | h
          · exact hks.out k h
          · rw [List.mem_singleton] at h; omega
        · rw [List.sum_append, List.sum_singleton, List.length_append, List.length_singleton]; omega
      case measure => simp [intOf]; omega
    · obtain hkn : ks.length = n := by omega
      rw [hkn] at hown hs
      obtain ⟨a, c, rfl⟩ := ownsRow_shape hown
      obtain ⟨g, rfl, hgW, hgl⟩ := own_some hown hn1
      rw [← HM0.out ks] at hown
      have hsum1 : 1 ≤ ks.sum ∧ ks.sum < 60 := by
        have h2 := hsum.out
        refine ⟨?_, by omega⟩
        cases ks with
        | nil => simp at hkn; omega
        | cons k ks => rw [List.sum_cons]; have := (hks.out k (List.mem_cons_self ..)).1; omega
      have HSUM := Lib.hid hsum1
      have HKN := Lib.hid hkn
      clear hsum1 hk
      obtain ⟨S, hS⟩ : ∃ S, S = F ks.sum := ⟨_, rfl⟩
      have HSS := Lib.hid hS
      rw [← hS]
      clear hS hkn
      go_wp2
      clear hlt
      go_loopw [29] (fun q w2 => ∃ i : Nat, i ≤ n ∧ q = .int .i64 (i : Int) ∧ w2.ownsRow W.heap.size 32 1 (.slice (some ⟨g, 0, none⟩) n c) n (midV ks i) ∧ Src w0 b sv (m + n) w2 ∧ W.grownBy w2 (some b)) (fun q _ => n - (intOf q).toNat)
      case atStart => exact ⟨0, Nat.zero_le _, rfl, hown, hs, hg⟩
      case round =>
        clear hown hs hg hgs
        obtain ⟨i, hi, rfl, hown, hs, hg⟩ := hrel
        by_cases hil : i < n
        · have hc := hown.cellAt i (by omega)
          rw [HMA.out ks i (by rw [HKN.out]; exact hil)] at hc
          have hf := hown.frozenAt i
          have hq := HQU.out ks.sum HSUM.out.2 HSUM.out.1 (ks[i]?.getD 0) (by
            have := (hks.out (ks[i]?.getD 0) (by rw [List.getElem?_eq_getElem (by rw [HKN.out]; exact hil)]; exact List.getElem_mem _)).2
            omega)
          have HST := Lib.hid (hown.stored i (.float .f32 (fA .quo .f32 (F (ks[i]?.getD 0)) S)))
          have HSM := Lib.hid (HMS.out ks i (by rw [HKN.out]; exact hil))
          rw [← HSS.out] at hq HSM
          generalize F (ks[i]?.getD 0) = y at *
          go_wp2
          go_roundw
          case rel => exact ⟨i + 1, by omega, by go_num, by rw [← HSM.out]; exact HST.out.1, hs.below ((Below.refl (b + 1) wr).setCell (show b + 1 ≤ g by omega) _), grown_then hg ((Below.refl W.heap.size wr).setCell hgW _)⟩
          case measure => simp [intOf]; omega
        · obtain rfl : i = n := by omega
          go_wp2
          go_ret
          rw [HME.out ks HKN.out] at hown
          exact ⟨⟨ks, _, _, HKN.out, hks.out, rfl, hown⟩, hs, hg⟩

set_option maxHeartbeats 1000000 in
theorem B10Chances_any (w : World) (sv : Value) (l : List UInt8) (n : Nat) (hl : l.length ≤ 1048576) (hn1 : 1 ≤ n) (hn : n ≤ 8) (hv : SlR w sv (byv l)) :
    Calls Try.prog 21 #[sv, .int .i64 (n : Int)] w fun e w' => (∃ (ks : List Nat) (v : Value), ks.length = n ∧ (∀ k ∈ ks, 1 ≤ k ∧ k ≤ 6) ∧ e = .returned v ∧ SlR w' v ((rowK ks).map (Value.float .f32))) ∧ Below w.heap.size w w' := by
  have HF := Lib.hid (from_any w sv l hv)
  have HC : Hid (∀ W, Src w w.heap.size sv 0 W → Calls Try.prog 70 #[.pointer (some ⟨w.heap.size, 0, none⟩), .int .i64 (n : Int)] W fun e w' => (∃ (ks : List Nat) (a : Option Addr) (c : Nat), ks.length = n ∧ (∀ k ∈ ks, 1 ≤ k ∧ k ≤ 6) ∧ e = .returned (.slice a n c) ∧ w'.ownsRow W.heap.size 32 1 (.slice a n c) n ((rowK ks).map (Value.float .f32))) ∧ Src w w.heap.size sv (0 + n) w' ∧ W.grownBy w' (some w.heap.size)) := Lib.hid fun W hs => b10Chances_any w W w.heap.size 0 n sv l hl (by omega) hn1 hn hv hs
  obtain ⟨a, k0, c0, rfl, -, -, -, -⟩ := SlR.opened (0 : UInt8) hv
  clear hv
  go_enter Try.func21, Try.ntmps21
  go_wp2_with (first
    | (go_at_call 70; refine (HC.out _ hs).mono ?_; rintro e w2 ⟨⟨ks, a2, c2, hk1, hk2, rfl, ho⟩, hs2, hg2⟩)
    | (go_at_call 58; refine HF.out.mono ?_; rintro e w1 ⟨rfl, hs, -⟩))
  go_ret
  exact ⟨⟨ks, _, hk1, hk2, rfl, SlR.own ho⟩, hs2.2.2.1⟩

end Go.Proofs.Ytmocfnpbofeiiaa
