/- The best tree with letters in order: the program's contract. -/
import Derived.Test.YtcgenmkgdhaejaaOcd
import Derived.Deep.WholeRow
namespace Go.Proofs.Ytcgenmkgdhaejaa
set_option linter.unusedSimpArgs false
set_option linter.unusedVariables false
open Go.RowKit
def out_OrderedCode (xs : List Int) : List Int × Bool :=
  if wOk xs then (if xs.length = 1 then ([1], true) else if validC (deep (dpW xs (xs.length - 1)) xs.length 0 (xs.length - 1) (List.replicate xs.length 0)) then (deep (dpW xs (xs.length - 1)) xs.length 0 (xs.length - 1) (List.replicate xs.length 0), true) else ([], false)) else ([], false)
theorem outOC_no {xs : List Int} (h : wOk xs = false) : out_OrderedCode xs = ([], false) := by unfold out_OrderedCode; rw [h]; rfl
theorem outOC_one {xs : List Int} (h : wOk xs = true) (h1 : xs.length = 1) : out_OrderedCode xs = ([1], true) := by unfold out_OrderedCode; rw [h, if_pos rfl, if_pos h1]
theorem outOC_yes {xs : List Int} (h : wOk xs = true) (h1 : xs.length ≠ 1) {l : List Int} (hl : l = deep (dpW xs (xs.length - 1)) xs.length 0 (xs.length - 1) (List.replicate xs.length 0)) (hv : validC l = true) : out_OrderedCode xs = (l, true) := by
  unfold out_OrderedCode
  rw [h, if_pos rfl, if_neg h1, ← hl, hv, if_pos rfl]
theorem outOC_bad {xs : List Int} (h : wOk xs = true) (h1 : xs.length ≠ 1) {l : List Int} (hl : l = deep (dpW xs (xs.length - 1)) xs.length 0 (xs.length - 1) (List.replicate xs.length 0)) (hv : validC l = false) : out_OrderedCode xs = ([], false) := by
  unfold out_OrderedCode
  rw [h, if_pos rfl, if_neg h1, ← hl, hv]; rfl
theorem len_OrderedCode (xs : List Int) (_ : ∀ x ∈ xs, I64 x) (hx : xs.length ≤ 1048576) : (out_OrderedCode xs).1.length ≤ 1048576 := by
  unfold out_OrderedCode
  split
  · split
    · exact Nat.le_of_lt_succ (by simp)
    · split
      · show (deep _ _ _ _ _).length ≤ _
        rw [deep_length, List.length_replicate]; exact hx
      · exact Nat.zero_le _
  · exact Nat.zero_le _
/-- The table's cells can be written. -/
def TabF (W : World) (b : Nat) : Prop := ∀ j, W.frozen? ⟨b, j, none⟩ = false
/-- What stays between the steps: the result's cell, the table. -/
def OS (W w : World) (T : Tb) : Prop := W.cell? ⟨w.heap.size, 0, none⟩ = some (.slice none 0 0) ∧ W.frozen? ⟨w.heap.size, 0, none⟩ = false ∧ TabR W (w.heap.size + 1) T ∧ TabF W (w.heap.size + 1) ∧ Below w.heap.size w W ∧ w.heap.size + 1 < W.heap.size
theorem OS.below {W W' w : World} {T : Tb} (h : OS W w T) (hb : Below W.heap.size W W') : OS W' w T := by
  obtain ⟨h1, h2, h3, h4, h5, h6⟩ := h
  have hs := h5.size
  exact ⟨cell_step h1 hb, (hb.frozen (p := ⟨w.heap.size, 0, none⟩) (show w.heap.size < _ by omega)).trans h2, h3.below hb, fun j => (hb.frozen (p := ⟨w.heap.size + 1, j, none⟩) (show w.heap.size + 1 < _ by omega)).trans (h4 j), h5.trans (hb.mono hs), Nat.lt_of_lt_of_le h6 hb.size⟩
/-- A cell of a block that is newer than the table. -/
theorem OS.cell {W w : World} {T : Tb} (h : OS W w T) {g j : Nat} (hg : w.heap.size + 1 < g) (u : Value) : OS (W.setCell ⟨g, j, none⟩ u) w T := by
  obtain ⟨h1, h2, h3, h4, h5, h6⟩ := h
  have ne1 : (⟨g, j, none⟩ : Addr).block ≠ w.heap.size := fun e => by simp at e; omega
  refine ⟨?_, (World.frozen?_setCell _ _ _ _).trans h2, fun i k hi hk => ⟨?_, ?_⟩, fun q => (World.frozen?_setCell _ _ _ _).trans (h4 q), h5.setCell (p := ⟨g, j, none⟩) (show w.heap.size ≤ g by omega) _, by rw [World.size_setCell]; exact h6⟩
  · exact (cell_other (by show w.heap.size ≠ g; omega)).trans h1
  · exact (cell_other (by show w.heap.size + 1 ≠ g; omega)).trans (h3 i k hi hk).1
  · exact (cell_other (by show w.heap.size + 1 ≠ g; omega)).trans (h3 i k hi hk).2
where cell_other {W : World} {a b : Addr} {u : Value} (h : a.block ≠ b.block) : (W.setCell b u).cell? a = W.cell? a :=
  World.cell?_of_block (Below.heap_setCell W b u a.block h)
theorem OS.tab {W w : World} {T : Tb} (h : OS W w T) {i k : Nat} (hi : i < 16) (hk : k < 16) (x : Int) (y : Nat) : OS ((W.setCell ⟨w.heap.size + 1, i * 32 + k * 2, none⟩ (.int .i64 x)).setCell ⟨w.heap.size + 1, i * 32 + k * 2 + 1, none⟩ (.int .i64 (y : Int))) w (tupd T i k (x, y)) := by
  obtain ⟨h1, h2, h3, h4, h5, h6⟩ := h
  have oth : ∀ (V : World) (o o' : Nat) (u : Value), o ≠ o' → (V.setCell ⟨w.heap.size + 1, o, none⟩ u).cell? ⟨w.heap.size + 1, o', none⟩ = V.cell? ⟨w.heap.size + 1, o', none⟩ := fun V o o' u hne =>
    World.cell?_setCell_other V _ _ u (fun e => hne (congrArg Addr.off e))
  refine ⟨?_, (World.frozen?_setCell _ _ _ _).trans ((World.frozen?_setCell _ _ _ _).trans h2), fun p q hp hq => ?_, fun q => (World.frozen?_setCell _ _ _ _).trans ((World.frozen?_setCell _ _ _ _).trans (h4 q)), ((h5.setCell (p := ⟨w.heap.size + 1, _, none⟩) (Nat.le_succ _) _).setCell (p := ⟨w.heap.size + 1, _, none⟩) (Nat.le_succ _) _), by rw [World.size_setCell, World.size_setCell]; exact h6⟩
  · exact (OS.cell.cell_other (by show w.heap.size ≠ w.heap.size + 1; omega)).trans ((OS.cell.cell_other (by show w.heap.size ≠ w.heap.size + 1; omega)).trans h1)
  · obtain ⟨c1, c2⟩ := h3 p q hp hq
    unfold tupd
    by_cases e : p = i ∧ q = k
    · obtain ⟨rfl, rfl⟩ := e
      rw [if_pos ⟨rfl, rfl⟩]
      constructor
      · rw [oth _ _ _ _ (by omega)]; exact World.cell?_setCell_same W _ _ c1
      · exact World.cell?_setCell_same _ _ _ ((oth _ _ _ _ (by omega)).trans c2)
    · rw [if_neg e]
      have hne : i * 32 + k * 2 ≠ p * 32 + q * 2 := fun he => e (by omega)
      constructor
      · rw [oth _ _ _ _ (by omega), oth _ _ _ _ (by omega)]; exact c1
      · rw [oth _ _ _ _ (by omega), oth _ _ _ _ (by omega)]; exact c2
/-- The best one's two cells. -/
def BC (W : World) (g : Nat) (p : Int × Nat) : Prop := W.cell? ⟨g, 0, none⟩ = some (.int .i64 p.1) ∧ W.cell? ⟨g, 1, none⟩ = some (.int .i64 (p.2 : Int)) ∧ ∀ j, W.frozen? ⟨g, j, none⟩ = false
theorem BC.below {W W' : World} {g : Nat} {p : Int × Nat} (h : BC W g p) (hb : Below W.heap.size W W') : BC W' g p :=
  ⟨cell_step h.1 hb, cell_step h.2.1 hb, fun j => (hb.frozen (p := ⟨g, j, none⟩) (show g < _ from World.block_lt_of_cell? W _ h.1)).trans (h.2.2 j)⟩
theorem BC.both {W : World} {g : Nat} {p : Int × Nat} (h : BC W g p) (q : Int × Nat) : BC ((W.setCell ⟨g, 0, none⟩ (.int .i64 q.1)).setCell ⟨g, 1, none⟩ (.int .i64 (q.2 : Int))) g q := by
  have oth : ∀ (V : World) (o o' : Nat) (u : Value), o ≠ o' → (V.setCell ⟨g, o, none⟩ u).cell? ⟨g, o', none⟩ = V.cell? ⟨g, o', none⟩ := fun V o o' u hne =>
    World.cell?_setCell_other V _ _ u (fun e => hne (congrArg Addr.off e))
  exact ⟨(oth _ _ _ _ (by omega)).trans (World.cell?_setCell_same _ _ _ h.1), World.cell?_setCell_same _ _ _ ((oth _ _ _ _ (by omega)).trans h.2.1), fun j => (World.frozen?_setCell _ _ _ _).trans ((World.frozen?_setCell _ _ _ _).trans (h.2.2 j))⟩
theorem BC.cost {W : World} {g : Nat} {p : Int × Nat} (h : BC W g p) (x : Int) : BC (W.setCell ⟨g, 0, none⟩ (.int .i64 x)) g (x, p.2) :=
  ⟨World.cell?_setCell_same _ _ _ h.1, (World.cell?_setCell_other W _ _ _ (fun e => absurd (show (0 : Nat) = 1 from congrArg Addr.off e) (by omega))).trans h.2.1, fun j => (World.frozen?_setCell _ _ _ _).trans (h.2.2 j)⟩
theorem tabInfo : (Try.prog.info? 63).map (fun i => (i.zero, i.size)) = some (some (.agg (Array.replicate 512 (.int .i64 0))), 512) := by kernel_rfl

set_option maxRecDepth 100000 in
set_option maxHeartbeats 2000000 in
theorem impl_OrderedCode (w : World) (v : Value) (xs : List Int) (hv : SlR w v (xs.map (Value.int .i64))) (_ : ∀ x ∈ xs, I64 x) (_ : xs.length ≤ 1048576) :
    Calls Try.prog 11 #[v] w (RetSl w 2 (out_OrderedCode xs).1.length ((out_OrderedCode xs).1.map (Value.int .i64)) (fun v => .tuple #[.agg #[v], .bool (out_OrderedCode xs).2])) := by
  obtain ⟨i0, hi0, hz00, hz01, hz02⟩ := info_parts info_Int64S
  obtain ⟨hzero, hsize⟩ := zero_of_info tabInfo
  obtain ⟨Z, hZ⟩ : ∃ Z : Array Value, Z = Array.replicate 512 (.int .i64 0) := ⟨_, rfl⟩
  rw [← hZ] at hzero
  have hZs : Z.size = 512 := by rw [hZ]; simp
  have HZ := Lib.hid hZ
  clear hZ
  obtain ⟨w1, hw1⟩ : ∃ w1, w1 = w.alloc (.cells #[.slice none 0 0] 24) := ⟨_, rfl⟩
  have hb1 : Below w.heap.size w w1 := by rw [hw1]; go_grown
  have hv1 := hv.below hb1
  have hc1 : w1.cell? ⟨w.heap.size, 0, none⟩ = some (.slice none 0 0) := by rw [hw1]; go_cell
  have hf1 : w1.frozen? ⟨w.heap.size, 0, none⟩ = false := by rw [hw1]; simp
  have hs1 : w1.heap.size = w.heap.size + 1 := by rw [hw1]; simp
  obtain ⟨a, n, c, rfl, hnl, hnc, hcm, hcell⟩ := SlR.opened 0 hv1
  unfold maxLen at hcm
  have HN := Lib.hid hnl
  cases hk : wOk xs
  · rw [outOC_no hk]
    have HK := Lib.hid hk
    clear hk hcell hnl hZs hzero hsize
    go_enter Try.func11, Try.ntmps11
    go_wp2_with fail
    rw [← hw1]
    clear hw1
    go_wp2_with (go_at_call 36; refine (areWeights_any _ xs _ hv1).mono ?_; rw [HK.out]; rintro e w2 ⟨rfl, rfl⟩)
    refine bodyPost_ret (v := .tuple #[.agg #[.slice none 0 0], .bool false]) (by simp [results, Try.results11, go_sem, *]) rfl ?_
    exact RetSl.mk (f := fun v => .tuple #[.agg #[v], .bool false]) (World.ownsRow_nil _ _ _ _) (hb1.setCell (p := ⟨w.heap.size, 0, none⟩) (Nat.le_refl _) _)
  · have HK := Lib.hid hk
    obtain ⟨p1, p2, p3⟩ := wOk_parts hk
    by_cases hn1 : xs.length = 1
    · rw [outOC_one hk hn1]
      have hn2 : n = 1 := by omega
      subst hn2
      have HROW : Hid (∀ u, ((w1.setCell ⟨w.heap.size, 0, none⟩ u).alloc (.cells #[.int .i64 1] 2)).ownsRow w.heap.size 2 1 (.slice (some ⟨w1.heap.size, 0, none⟩) 1 1) 1 [.int .i64 1]) := by
        show ∀ u, _
        intro u
        refine ⟨rfl, .inr ⟨w1.heap.size, 1, #[.int .i64 1], rfl, by omega, ?_, Nat.le_refl _, by unfold maxLen; omega, rfl, rfl⟩⟩
        have := heap_alloc_new (w1.setCell ⟨w.heap.size, 0, none⟩ u) (.cells #[.int .i64 1] 2)
        rw [World.size_setCell] at this
        exact this
      have hcA : (w1.alloc (.cells #[.int .i64 1] 2)).cell? ⟨w.heap.size, 0, none⟩ = some (.slice none 0 0) := cell_step hc1 (by go_grown)
      have hfA : (w1.alloc (.cells #[.int .i64 1] 2)).frozen? ⟨w.heap.size, 0, none⟩ = false := (Below.frozen (B := w1.heap.size) (by go_grown) (p := ⟨w.heap.size, 0, none⟩) (show w.heap.size < _ by omega)).trans hf1
      clear hk hcell hnl hn1 hZs hzero hsize p1 p2 p3
      go_enter Try.func11, Try.ntmps11
      go_wp2_with fail
      rw [← hw1]
      clear hw1
      go_wp2_with (go_at_call 36; refine (areWeights_any _ xs _ hv1).mono ?_; rw [HK.out]; rintro e w2 ⟨rfl, rfl⟩)
      refine bodyPost_ret (v := .tuple #[.agg #[.slice (some ⟨w1.heap.size, 0, none⟩) 1 1], .bool true]) (by simp [results, Try.results11, go_sem, *]) rfl ?_
      exact RetSl.mk (f := fun v => .tuple #[.agg #[v], .bool true]) (HROW.out _) ((hb1.setCell (p := ⟨w.heap.size, 0, none⟩) (Nat.le_refl _) _).alloc (by rw [World.size_setCell]; exact hb1.size) _)
    · rw [hnl] at p1 p2
      have hn2 : n ≠ 1 := by omega
      have hn3 : ¬ (n : Int) = 1 := by omega
      have hstz : (storeCells ⟨w.heap.size + 1, 0, none⟩ Z.toList).run Try.prog (w1.alloc (.cells Z 63)) = .ok () (w1.alloc (.cells Z 63)) := by
        rw [← hs1]
        exact run_storeCells_new w1 _ Z Z (by rw [hZs]; exact hsize) rfl (by rw [HZ.out]; kernel_rfl)
      have hOS : OS (w1.alloc (.cells Z 63)) w (dpW xs 0) := by
        refine ⟨cell_step hc1 (by go_grown), (Below.frozen (B := w1.heap.size) (by go_grown) (p := ⟨w.heap.size, 0, none⟩) (show w.heap.size < _ by omega)).trans hf1, fun i k hi hk => ?_, fun j => ?_, Below.alloc hb1 hb1.size _, by rw [World.size_alloc]; omega⟩
        · rw [← hs1]
          have hz : ∀ j, j < 512 → Z[j]? = some (.int .i64 0) := fun j hj => by rw [HZ.out]; simp [hj]
          constructor
          · rw [cell_of_row _ _ _ Z _ (0, 0) (heap_alloc_new w1 _), hz _ (by omega)]; rfl
          · rw [cell_of_row _ _ _ Z _ (0, 0) (heap_alloc_new w1 _), hz _ (by omega)]; rfl
        · rw [← hs1, World.frozen?_alloc_at]; simp
      have hp2 := p2
      have HALL := Lib.hid p3
      have HINV : Hid (∀ m i, m + 1 < n → i + (m + 1) ≤ n → TInv (dpI xs (m + 1) (dpW xs m) i)) := Lib.hid (fun m i hm hi => dpI_inv p3 (by omega) (dpW_inv p3 (by omega) m (by omega)) (m + 1) (by omega) i (by omega))
      have HC : Hid (∀ W, Below w.heap.size w W → ∀ k, k < n → ∃ b off, a = some ⟨b, off, none⟩ ∧ W.cell? ⟨b, off + k, none⟩ = some (.int .i64 (xs[k]?.getD 0)) ∧ b < w.heap.size) := by
        show ∀ W, _
        intro W hW k hk
        obtain ⟨a2, n2, c2, e, hnl2, -, -, hcell2⟩ := SlR.opened 0 hv
        cases e
        obtain ⟨b, off, hb, hc, hbl⟩ := hcell2 k (by omega)
        rw [List.getD_eq_getElem?_getD] at hc
        exact ⟨b, off, hb, (hW.cell (p := ⟨b, off + k, none⟩) hbl).trans hc, hbl⟩
      have HWB : Hid (∀ m, (m : Nat) ≤ n → ∀ i, i + m ≤ n → 0 ≤ wsm xs i m ∧ wsm xs i m ≤ 1000000 * (m : Int)) := Lib.hid (fun m hm i hi => wsm_bd p3 (by omega) i m (by omega))
      clear hk hcell hnl p3 hn1
      go_enter Try.func11, Try.ntmps11
      go_wp2_with fail
      rw [← hw1]
      clear hw1
      go_wp2_with (go_at_call 36; refine (areWeights_any _ xs _ hv1).mono ?_; rw [HK.out]; rintro e w2 ⟨rfl, rfl⟩)
      have hOS := hOS
      generalize w1.alloc (.cells Z 63) = w2 at *
      clear hstz hzero hsize hb1 hv1 hc1 hf1 hs1 hv
      have hne1 : ((n : Int) == 1) = false := by simpa using hn3
      rw [hne1]
      clear hne1
      go_loopw [6] (fun q wr => ∃ m : Nat, q = .int .i64 ((m + 1 : Nat) : Int) ∧ m + 1 ≤ n ∧ OS wr w (dpW xs m)) (fun q _ => n - (intOf q).toNat)
      case atStart => exact ⟨0, rfl, by omega, hOS⟩
      case round =>
        clear hOS
        obtain ⟨m, rfl, hm, hO⟩ := hrel
        by_cases hmn : m + 1 < n
        · obtain ⟨wd, hwd⟩ : ∃ wd, wd = m + 1 := ⟨_, rfl⟩
          have HWD := Lib.hid hwd
          rw [← hwd] at hmn ⊢
          have hwd1 : 1 ≤ wd := by omega
          have e1 : IntKind.i64.wrap ((n : Int) - (wd : Int)) = ((n - wd : Nat) : Int) := by rw [Int.natCast_sub (by omega)]; exact IntWalk.i64_in _ (by omega)
          have HSTEP : Hid (dpW xs wd = dpI xs wd (dpW xs m) (n - wd)) := by show _ = _; rw [hwd]; show dpI xs (m + 1) (dpW xs m) (xs.length - (m + 1)) = _; rw [HN.out]
          have HINV2 : Hid (∀ i, i + wd ≤ n → TInv (dpI xs wd (dpW xs m) i)) := Lib.hid (fun i hi => by rw [hwd]; exact HINV.out m i (by omega) (by omega))
          clear hwd
          go_wp2
          go_loopw [35] (fun q wr => ∃ i : Nat, q = .int .i64 (i : Int) ∧ i ≤ n - wd ∧ OS wr w (dpI xs wd (dpW xs m) i)) (fun q _ => n - wd - (intOf q).toNat)
          case atStart => exact ⟨0, rfl, Nat.zero_le _, hO⟩
          case round =>
            clear hO
            obtain ⟨i, rfl, hi, hO⟩ := hrel
            by_cases hin : i < n - wd
            · obtain ⟨T, hT⟩ : ∃ T, T = dpI xs wd (dpW xs m) i := ⟨_, rfl⟩
              rw [← hT] at hO
              have HINV3 : Hid (TInv T) := by show TInv T; rw [hT]; exact HINV2.out i (by omega)
              have HNX : Hid (dpI xs wd (dpW xs m) (i + 1) = tupd T i (i + wd) (cel xs T i (i + wd))) := by show _ = _; rw [hT]; rfl
              obtain ⟨k, hk⟩ : ∃ k, k = i + wd := ⟨_, rfl⟩
              have HK2 := Lib.hid hk
              rw [← hk] at HNX
              have e2 : IntKind.i64.wrap ((i : Int) + (wd : Int)) = (k : Int) := by rw [hk, Int.natCast_add]; exact IntWalk.i64_in _ (by omega)
              have hg1 : w.heap.size + 1 < wr.heap.size := hO.2.2.2.2.2
              have hO2 : OS (wr.alloc (.cells #[.int .i64 (-1), .int .i64 0] 61)) w T := hO.below (by go_grown)
              have hb0 : (wr.alloc (.cells #[.int .i64 (-1), .int .i64 0] 61)).cell? ⟨wr.heap.size, 0, none⟩ = some (.int .i64 (-1)) := by go_cell
              have hb1 : (wr.alloc (.cells #[.int .i64 (-1), .int .i64 0] 61)).cell? ⟨wr.heap.size, 1, none⟩ = some (.int .i64 ((0 : Nat) : Int)) := by go_cell
              have hf0 : ∀ j, (wr.alloc (.cells #[.int .i64 (-1), .int .i64 0] 61)).frozen? ⟨wr.heap.size, j, none⟩ = false := fun j => by rw [World.frozen?_alloc_at]; simp
              have HI := Lib.hid (And.intro hO2 (And.intro hb0 (And.intro hb1 hf0)))
              have hkn : k < n := by omega
              clear hO2 hb0 hb1 hf0 hO hk hT
              go_wp2
              obtain ⟨hO, hb0, hb1, hf0⟩ := HI.out
              have hB : BC (wr.alloc (.cells #[.int .i64 (-1), .int .i64 0] 61)) wr.heap.size (bst T i k 0) := ⟨hb0, hb1, hf0⟩
              clear HI hb0 hb1 hf0
              generalize wr.alloc (.cells #[.int .i64 (-1), .int .i64 0] 61) = w3 at *
              generalize wr.heap.size = g at *
              go_loopw [10] (fun q wr => ∃ mm : Nat, q = .int .i64 ((i + mm : Nat) : Int) ∧ i + mm ≤ k ∧ OS wr w T ∧ BC wr g (bst T i k mm)) (fun q _ => k - (intOf q).toNat)
              case atStart => exact ⟨0, rfl, by have := HK2.out; omega, hO, hB⟩
              case round =>
                clear hO hB
                obtain ⟨mm, rfl, hmm, hO, hB⟩ := hrel
                have hbd := bst_bd HINV3.out i k mm hmm
                by_cases hjk : i + mm < k
                · obtain ⟨c1, -⟩ := hO.2.2.1 i (i + mm) (by omega) (by omega)
                  obtain ⟨c2, -⟩ := hO.2.2.1 (i + mm + 1) k (by omega) (by omega)
                  have hx := HINV3.out i (i + mm)
                  have hy := HINV3.out (i + mm + 1) k
                  have HST : Hid (bst T i k (mm + 1) = if (bst T i k mm).1 < 0 ∨ (T i (i + mm)).1 + (T (i + mm + 1) k).1 < (bst T i k mm).1 then ((T i (i + mm)).1 + (T (i + mm + 1) k).1, i + mm) else bst T i k mm) := Lib.hid rfl
                  generalize (T i (i + mm)).1 = x at *
                  generalize (T (i + mm + 1) k).1 = y at *
                  generalize hbm : bst T i k mm = bm at *
                  obtain ⟨j, hj⟩ : ∃ j, j = i + mm := ⟨_, rfl⟩
                  rw [← hj] at c1 c2 HST hjk ⊢
                  have HJ := Lib.hid hj
                  have hx1 : 0 ≤ x ∧ x ≤ 16000000 * 16 := by omega
                  have hy1 : 0 ≤ y ∧ y ≤ 16000000 * 16 := by omega
                  have g1 : (i : Int) < 16 := by omega
                  have g2 : (j : Int) < 16 := by omega
                  have g3 : ((j + 1 : Nat) : Int) < 16 := by omega
                  have g4 : (k : Int) < 16 := by omega
                  have g5 : (0 : Int) ≤ ((j + 1 : Nat) : Int) := by omega
                  have g6 : ((j + 1 : Nat) : Int).toNat = j + 1 := by omega
                  have e3 : IntKind.i64.wrap ((j : Int) + 1) = ((j + 1 : Nat) : Int) := by rw [Int.natCast_add]; exact IntWalk.i64_in _ (by omega)
                  have e4 : IntKind.i64.wrap (x + y) = x + y := IntWalk.i64_in _ (by omega)
                  clear hx hy hj hbm
                  go_wp2_with fail
                  go_quiet (fail)
                  have hk1 := ((Qu.refl wr).drewN nq).keep
                  have hO2 := hO.below hk1
                  have hB2 := hB.below hk1
                  clear hO hB c1 c2
                  generalize wr.drewN nq = wq at *
                  have HO2 := Lib.hid hO2
                  have HB2 := Lib.hid hB2
                  obtain ⟨f1, f2, f3⟩ := hB2
                  have f4 := f3 0
                  have f5 := f3 1
                  clear f3 e3 e4 g6
                  by_cases hz : bm.1 < 0
                  · have HN2 : Hid (bst T i k (mm + 1) = (x + y, j)) := by show _ = _; rw [HST.out, if_pos (.inl hz)]
                    go_wp2
                    go_roundw
                    case rel => exact ⟨mm + 1, by have := HJ.out; go_num, by have := HJ.out; omega, (HO2.out.cell (by omega) _).cell (by omega) _, by rw [HN2.out]; exact HB2.out.both (x + y, j)⟩
                    case measure => simp [intOf]; omega
                  · by_cases hlt : x + y < bm.1
                    · have HN2 : Hid (bst T i k (mm + 1) = (x + y, j)) := by show _ = _; rw [HST.out, if_pos (.inr hlt)]
                      go_wp2
                      go_roundw
                      case rel => exact ⟨mm + 1, by have := HJ.out; go_num, by have := HJ.out; omega, (HO2.out.cell (by omega) _).cell (by omega) _, by rw [HN2.out]; exact HB2.out.both (x + y, j)⟩
                      case measure => simp [intOf]; omega
                    · have HN2 : Hid (bst T i k (mm + 1) = bm) := by show _ = _; rw [HST.out, if_neg (fun h => h.elim hz hlt)]
                      go_wp2
                      go_roundw
                      case rel => exact ⟨mm + 1, by have := HJ.out; go_num, by have := HJ.out; omega, HO2.out, by rw [HN2.out]; exact HB2.out⟩
                      case measure => simp [intOf]; omega
                · obtain rfl : mm = k - i := by omega
                  obtain ⟨bd1, bd2, bd3⟩ := hbd
                  obtain ⟨bd3, bd4, bd5⟩ := bd3 (by have := HK2.out; omega)
                  have HCEL : Hid (cel xs T i k = ((bst T i k (k - i)).1 + wsm xs i (k + 1 - i), (bst T i k (k - i)).2)) := Lib.hid rfl
                  generalize bst T i k (k - i) = bm at *
                  obtain ⟨b0, off, rfl, -, hbl⟩ := HC.out _ hO.2.2.2.2.1 0 (by omega)
                  have HC2 : Hid (∀ W, Below w.heap.size w W → ∀ q, q < n → W.cell? ⟨b0, off + q, none⟩ = some (.int .i64 (xs[q]?.getD 0))) := by
                    show ∀ W, _
                    intro W hW q hq
                    obtain ⟨b, o, he, hc, -⟩ := HC.out W hW q hq
                    cases he
                    exact hc
                  have h1 : (0 : Int) ≤ (i : Int) := by omega
                  have h2 : (i : Int) ≤ ((k + 1 : Nat) : Int) := by omega
                  have h3 : ((k + 1 : Nat) : Int) ≤ (c : Int) := by omega
                  have e5 : IntKind.i64.wrap ((k : Int) + 1) = ((k + 1 : Nat) : Int) := by rw [Int.natCast_add]; exact IntWalk.i64_in _ (by omega)
                  have HW0 : Hid (wsm xs i 0 = 0) := Lib.hid rfl
                  have HWS : Hid (∀ q, wsm xs i (q + 1) = wsm xs i q + xs[i + q]?.getD 0) := Lib.hid (fun q => rfl)
                  have hB0 : BC wr g (bm.1 + wsm xs i 0, bm.2) := by rw [HW0.out, Int.add_zero]; exact hB
                  clear hB
                  go_wp2
                  go_loopw [80] (fun q wr => ∃ mm : Nat, q = .int .i64 (mm : Int) ∧ mm ≤ k + 1 - i ∧ OS wr w T ∧ BC wr g (bm.1 + wsm xs i mm, bm.2)) (fun q _ => k + 1 - i - (intOf q).toNat)
                  case atStart => exact ⟨0, rfl, Nat.zero_le _, hO, hB0⟩
                  case round =>
                    clear hO hB0
                    obtain ⟨mm, rfl, hmm, hO, hB⟩ := hrel
                    obtain ⟨v1, v2⟩ := HWB.out mm (by omega) i (by omega)
                    have HO2 := Lib.hid hO
                    have HB2 := Lib.hid hB
                    by_cases hml : mm < k + 1 - i
                    · have hcw := HC2.out _ hO.2.2.2.2.1 (i + mm) (by omega)
                      rw [← Nat.add_assoc] at hcw
                      have hws := HWS.out mm
                      have hv2 := HWB.out (mm + 1) (by omega) i (by omega)
                      rw [hws] at hv2
                      have HW2 := Lib.hid hws
                      clear hws
                      generalize xs[i + mm]?.getD 0 = z at *
                      generalize wsm xs i mm = sm at *
                      obtain ⟨f1, f2, f3⟩ := hB
                      have f4 := f3 0
                      have e6 : IntKind.i64.wrap (bm.1 + sm + z) = bm.1 + sm + z := IntWalk.i64_in _ (by omega)
                      clear f3
                      go_wp2
                      go_roundw
                      case rel => exact ⟨mm + 1, by go_num, by omega, HO2.out.cell (by omega) _, by rw [HW2.out, ← Int.add_assoc]; exact HB2.out.cost (bm.1 + sm + z)⟩
                      case measure => simp [intOf]; omega
                    · obtain rfl : mm = k + 1 - i := by omega
                      have HNN : Hid (OS ((wr.setCell ⟨w.heap.size + 1, i * 32 + k * 2, none⟩ (.int .i64 (bm.1 + wsm xs i (k + 1 - i)))).setCell ⟨w.heap.size + 1, i * 32 + k * 2 + 1, none⟩ (.int .i64 (bm.2 : Int))).drew w (dpI xs wd (dpW xs m) (i + 1))) := by
                        show OS _ _ _
                        rw [HNX.out, HCEL.out]
                        exact (hO.tab (by omega) (by omega) _ _).below (by go_grown)
                      have hOD := hO.below (W' := wr.drew) (by go_grown)
                      have hBD := hB.below (W' := wr.drew) (by go_grown)
                      obtain ⟨f1, f2, f3⟩ := hBD
                      obtain ⟨t1, t2⟩ := hOD.2.2.1 i k (by omega) (by omega)
                      have t3 := hOD.2.2.2.1 (i * 32 + k * 2)
                      have t4 := hOD.2.2.2.1 (i * 32 + k * 2 + 1)
                      obtain ⟨s1, s2⟩ := hO.2.2.1 i k (by omega) (by omega)
                      have s3 := hO.2.2.2.1 (i * 32 + k * 2)
                      have s4 := hO.2.2.2.1 (i * 32 + k * 2 + 1)
                      have g1 : (i : Int) < 16 := by omega
                      have g4 : (k : Int) < 16 := by omega
                      clear f3 hOD hO hB
                      generalize bm.1 + wsm xs i (k + 1 - i) = cst at *
                      have t5 : (wr.setCell ⟨w.heap.size + 1, i * 32 + k * 2, none⟩ (.int .i64 cst)).cell? ⟨w.heap.size + 1, i * 32 + k * 2 + 1, none⟩ = some (.int .i64 ((T i k).2 : Int)) := (World.cell?_setCell_other _ _ _ _ (fun e => absurd (show i * 32 + k * 2 = i * 32 + k * 2 + 1 from congrArg Addr.off e) (by omega))).trans s2
                      go_wp2
                      refine wp_region_still_tail 5 (by kernel_rfl) (by kernel_rfl) ?_
                      change wpStill _ _ (World.drew wr) _ _ _
                      simp only [List.take_succ_cons, List.take_zero, List.drop_succ_cons, List.drop_zero]
                      repeat still_step
                      refine wpStill_nil ?_
                      go_wp2
                      go_roundw
                      case rel => exact ⟨i + 1, by go_num, by omega, HNN.out⟩
                      case measure => simp [intOf]; omega
            · obtain rfl : i = n - wd := by omega
              have HE : Hid (OS wr w (dpW xs wd)) := by show OS _ _ _; rw [HSTEP.out]; exact hO
              go_wp2
              go_roundw
              case rel => exact ⟨wd, by go_num, by omega, HE.out⟩
              case measure => have := HWD.out; simp [intOf]; omega
        · have hmn2 : n = m + 1 := by omega
          have HM := Lib.hid hmn2
          have HT : Hid (dpW xs m = dpW xs (xs.length - 1)) := by show _ = _; rw [HN.out, hmn2]; rfl
          obtain ⟨T, hTT⟩ : ∃ T, T = dpW xs m := ⟨_, rfl⟩
          rw [← hTT] at hO HT
          clear hmn2
          have hmi : ¬ ((m + 1 : Nat) : Int) < (n : Int) := by omega
          have HOS := Lib.hid hO
          go_wp2_with (at_make; refine wpList_make_full _ rfl _ _ 22 rfl wr.heap.size 2 i0 (.int .i64 0) 1 Try.underlying22 hi0 hz00 hz01 .i64 .i64 _ _ n rfl rfl rfl rfl (by rw [hz02]; omega) (by unfold maxLen; omega) (Nat.le_refl _) ?_; intro w5 hown hgr)
          have hp16 : (2 : Int) ^ n ≤ 65536 := by
            have h1 : 2 ^ n ≤ 2 ^ 16 := Nat.pow_le_pow_right (by omega) p2
            have e : ((2 : Int) ^ n) = ((2 ^ n : Nat) : Int) := by simp
            rw [e]; omega
          rw [Nat.mul_one, show (Value.cells (.int .i64 0)) = #[.int .i64 0] from rfl, toList_madeCells_one] at hown
          have hsw := hgr.size
          have hb5 : Below wr.heap.size wr w5 := (Below.refl _ _).grown hgr (Nat.le_refl _) (by simp)
          have hOw := hO.2.2.2.2.2
          have hlt5 : wr.heap.size < w5.heap.size := (hown.lt wr.heap.size rfl).2
          obtain ⟨wD, hWD⟩ : ∃ wD, wD = (w5.alloc (.cells #[.slice (some ⟨wr.heap.size, 0, none⟩) n n] 22)).alloc (.cells #[.func (.func 37) #[] #[.pointer (some ⟨w5.heap.size, 0, none⟩), .pointer (some ⟨w5.heap.size + 1, 0, none⟩), .pointer (some ⟨w.heap.size + 1, 0, none⟩)]] 64) := ⟨_, rfl⟩
          have hdl : wD.cell? ⟨w5.heap.size, 0, none⟩ = some (.slice (some ⟨wr.heap.size, 0, none⟩) n n) := by rw [hWD]; clear hWD; go_cell
          have hdf : wD.cell? ⟨w5.heap.size + 1, 0, none⟩ = some (.func (.func 37) #[] #[.pointer (some ⟨w5.heap.size, 0, none⟩), .pointer (some ⟨w5.heap.size + 1, 0, none⟩), .pointer (some ⟨w.heap.size + 1, 0, none⟩)]) := by rw [hWD]; clear hWD; go_cell
          have hbD : Below wr.heap.size wr wD := by
            rw [hWD]
            exact (hb5.alloc hb5.size _).alloc (by simp only [World.size_alloc]; have := hb5.size; omega) _
          have hD : DS wD wr.heap.size w5.heap.size (w5.heap.size + 1) (w.heap.size + 1) wr.heap.size n n T (List.replicate n 0) := by
            refine ⟨hdl, hdf, hO.2.2.1.below hbD, ?_⟩
            · rw [hWD]
              have := (hown.alloc (.cells #[.slice (some ⟨wr.heap.size, 0, none⟩) n n] 22)).alloc (.cells #[.func (.func 37) #[] #[.pointer (some ⟨w5.heap.size, 0, none⟩), .pointer (some ⟨w5.heap.size + 1, 0, none⟩), .pointer (some ⟨w.heap.size + 1, 0, none⟩)]] 64)
              rw [List.map_replicate]
              exact this
          have hOD := hO.below hbD
          go_wp2_with fail
          rw [← hWD]
          clear hWD
          rw [show (n : Int) - 1 = ((n - 1 : Nat) : Int) by omega]
          refine (deepen_any wr.heap.size w5.heap.size (w5.heap.size + 1) (w.heap.size + 1) wr.heap.size n n T p2 (by omega) (by omega) (by omega) (fun x y h1 h2 => ?_) n 0 (n - 1) wD (List.replicate n 0) 0 (by omega) (Nat.zero_le _) (by omega) (by simp) hD (by omega) (by omega) (fun x hx => by rw [List.mem_replicate] at hx; rw [hx.2]; omega)).mono ?_
          · rw [hTT]
            exact dpW_at HALL.out (by have := HN.out; omega) m x y (by have := HN.out; have := HM.out; omega) h1 (by have := HN.out; omega) (by have := HM.out; omega)
          rintro e wE ⟨rfl, hDE, hgE⟩
          obtain ⟨L, hL⟩ : ∃ L, L = deep T n 0 (n - 1) (List.replicate n 0) := ⟨_, rfl⟩
          rw [← hL] at hDE
          have HLL : Hid (L = deep (dpW xs (xs.length - 1)) xs.length 0 (xs.length - 1) (List.replicate xs.length 0)) := by show _ = _; rw [hL, HT.out, HN.out]
          have hLn : L.length = n := by rw [hL, deep_length, List.length_replicate]
          have hcE : wE.cell? ⟨w.heap.size, 0, none⟩ = some (.slice none 0 0) := TabR.grown.cell_grown1 hgE hOD.1 (by show w.heap.size ≠ _; omega)
          have hfE : wE.frozen? ⟨w.heap.size, 0, none⟩ = false := (World.frozen?_of_block (hgE.block w.heap.size (by have := hOD.2.2.2.2.2; omega) (fun e => by have := Option.some.inj e; omega))).trans hOD.2.1
          have hbE : Below w.heap.size w wE := hOD.2.2.2.2.1.grown hgE hOD.2.2.2.2.1.size (fun j hj => by cases hj; omega)
          obtain ⟨d1, d2, d3, d4⟩ := hDE
          have hso := SlR.own d4
          have hKEEP : Hid (∀ W, Below wE.heap.size wE W → W.cell? ⟨w.heap.size, 0, none⟩ = some (.slice none 0 0) ∧ W.frozen? ⟨w.heap.size, 0, none⟩ = false ∧ Below w.heap.size w W ∧ W.ownsRow wr.heap.size 2 1 (.slice (some ⟨wr.heap.size, 0, none⟩) n n) n (L.map (Value.int .i64))) := by
            show ∀ W, _
            intro W hW
            exact ⟨cell_step hcE hW, (hW.frozen (p := ⟨w.heap.size, 0, none⟩) (World.block_lt_of_cell? wE ⟨w.heap.size, 0, none⟩ hcE)).trans hfE, hbE.trans (hW.mono hbE.size), ownsRow_below d4 hW⟩
          clear hL d2 d3 d4 hcE hfE hbE hgE hOD hD hbD hO hb5 hown hgr hTT hdl hdf
          cases hvc : validC L
          · have HR := Lib.hid (outOC_bad HK.out (by have := HN.out; omega) HLL.out hvc)
            have HVC := Lib.hid hvc
            clear hvc
            go_wp2_with (go_at_call 38; refine (asCode_no _ _ _ hso HVC.out).mono ?_; rintro e wF ⟨rfl, hbF⟩; obtain ⟨k1, k2, k3, k4⟩ := hKEEP.out _ hbF)
            refine bodyPost_ret (v := .tuple #[.agg #[.slice none 0 0], .bool false]) (by simp [results, Try.results11, go_sem, *]) rfl ?_
            rw [HR.out]
            exact RetSl.mk (f := fun v => .tuple #[.agg #[v], .bool false]) (World.ownsRow_nil _ _ _ _) (k3.setCell (p := ⟨w.heap.size, 0, none⟩) (Nat.le_refl _) _)
          · have HR := Lib.hid (outOC_yes HK.out (by have := HN.out; omega) HLL.out hvc)
            have HVC := Lib.hid hvc
            clear hvc
            go_wp2_with (go_at_call 38; refine (asCode_yes _ _ _ hso HVC.out).mono ?_; rintro e wF ⟨rfl, hbF⟩; obtain ⟨k1, k2, k3, k4⟩ := hKEEP.out _ hbF)
            refine bodyPost_ret (v := .tuple #[.agg #[.slice (some ⟨wr.heap.size, 0, none⟩) n n], .bool true]) (by simp [results, Try.results11, go_sem, *]) rfl ?_
            rw [HR.out]
            dsimp only
            rw [hLn]
            exact RetSl.mk (f := fun v => .tuple #[.agg #[v], .bool true]) (ownsRow_base (ownsRow_setCell_below k4 (a := ⟨w.heap.size, 0, none⟩) (show w.heap.size < wr.heap.size by omega) _) (by omega)) (k3.setCell (p := ⟨w.heap.size, 0, none⟩) (Nat.le_refl _) _)

end Go.Proofs.Ytcgenmkgdhaejaa
