/- The best tree with letters in order: the reference's contract. -/
import Derived.Test.YtcgenmkgdhaejaaOcs
import Derived.Maps.AppendAt
namespace Go.Proofs.Ytcgenmkgdhaejaa
set_option linter.unusedSimpArgs false
set_option linter.unusedVariables false
open Go.RowKit
theorem tupd_same {T : Tb} {i k : Nat} (v : Int × Nat) (h : T i k = v) : tupd T i k v = T := by
  funext a b
  unfold tupd
  split
  · rename_i e; rw [e.1, e.2, h]
  · rfl
theorem tupd_tupd (T : Tb) (i k : Nat) (u v : Int × Nat) : tupd (tupd T i k u) i k v = tupd T i k v := by
  funext a b
  unfold tupd
  split <;> rfl
theorem tupd_at (T : Tb) (i k : Nat) (v : Int × Nat) : tupd T i k v i k = v := by unfold tupd; rw [if_pos ⟨rfl, rfl⟩]
theorem tupd_fst (T : Tb) (i k y a b : Nat) : (tupd T i k ((T i k).1, y) a b).1 = (T a b).1 := by
  unfold tupd
  split
  · rename_i e; rw [e.1, e.2]
  · rfl
/-- A row of noughts. -/
def rowZ (W : World) (r n : Nat) : Prop := ∀ k, k < n → W.cell? ⟨r, k, none⟩ = some (.int .i64 0) ∧ W.frozen? ⟨r, k, none⟩ = false
theorem rowZ.grown {W W' : World} {r n : Nat} {row : Option Nat} (h : rowZ W r n) (hg : W.grownBy W' row) (hne : row ≠ some r) : rowZ W' r n := fun k hk => by
  obtain ⟨a, b⟩ := h k hk
  have hb := hg.block r (World.block_lt_of_cell? W ⟨r, k, none⟩ a) (fun e => hne e.symm)
  exact ⟨(World.cell?_of_block (a := ⟨r, k, none⟩) hb).trans a, (World.frozen?_of_block (a := ⟨r, k, none⟩) hb).trans b⟩
theorem own_kn2 {w w' : World} {b : Nat} {e : TypeId} {s : Nat} {v u : Value} {n : Nat} {xs : List Value} (h : w.ownsRow b e s v n xs) (hg : w.grownBy w' u.ownBlock) (hne : ∀ g, u.ownBlock = some g → v.ownBlock ≠ some g) : w'.ownsRow b e s v n xs := by
  refine h.kept hg ?_
  cases hv : v.ownBlock with
  | none => exact .inl rfl
  | some g => exact .inr (fun e => hne g e.symm hv)
def slL (rc : Nat → Nat) (i n : Nat) : List Value := (List.range i).map fun j => .slice (some ⟨rc j, 0, none⟩) n n
theorem slL_len (rc : Nat → Nat) (i n : Nat) : (slL rc i n).length = i := by simp [slL]
theorem slL_snoc (rc : Nat → Nat) (i n r : Nat) : slL (fun j => if j < i then rc j else r) (i + 1) n = slL rc i n ++ [.slice (some ⟨r, 0, none⟩) n n] := by
  unfold slL
  rw [List.range_succ, List.map_append]
  congr 1
  · refine List.map_congr_left fun j hj => ?_
    rw [List.mem_range] at hj
    dsimp only
    rw [if_pos hj]
  · simp
theorem slL_at (rc : Nat → Nat) (i n j : Nat) (h : j < i) : (slL rc i n)[j]? = some (.slice (some ⟨rc j, 0, none⟩) n n) := by
  unfold slL; simp [h]
theorem info_Sl : (Try.prog.info? 22).map (fun i => (i.zero, i.size, i.bytes)) = some (some (.slice none 0 0), 1, 24) := by kernel_rfl
/-- The two tables while they are made. -/
structure BS (wB W : World) (i n : Nat) (v u : Value) (rc rp : Nat → Nat) : Prop where
  o1 : W.ownsRow wB.heap.size 22 1 v i (slL rc i n)
  o2 : W.ownsRow wB.heap.size 22 1 u i (slL rp i n)
  z1 : ∀ j, j < i → rowZ W (rc j) n
  z2 : ∀ j, j < i → rowZ W (rp j) n
  l1 : ∀ j, j < i → wB.heap.size ≤ rc j ∧ rc j < W.heap.size
  l2 : ∀ j, j < i → wB.heap.size ≤ rp j ∧ rp j < W.heap.size
  a1 : ∀ a b, a < i → b < i → rc a = rc b → a = b
  a2 : ∀ a b, a < i → b < i → rp a = rp b → a = b
  a3 : ∀ a b, a < i → b < i → rc a ≠ rp b
  a4 : ∀ a, a < i → v.ownBlock ≠ some (rc a) ∧ v.ownBlock ≠ some (rp a) ∧ u.ownBlock ≠ some (rc a) ∧ u.ownBlock ≠ some (rp a)
  a5 : ∀ k, v.ownBlock = some k → u.ownBlock ≠ some k
  b : Below wB.heap.size wB W
theorem BS.step {wB wr w1 w3 w4 w6 : World} {i n : Nat} {v u v' u' : Value} {rc rp : Nat → Nat} (h : BS wB wr i n v u rc rp) (o o' : Obj)
    (m1 : w1.ownsRow wr.heap.size 2 1 (.slice (some ⟨wr.heap.size, 0, none⟩) n n) n (List.replicate n (.int .i64 0))) (g1 : wr.grownBy w1 none)
    (g3 : (w1.alloc o).grownBy w3 v.ownBlock) (o3 : w3.ownsRow wB.heap.size 22 1 v' (i + 1) (slL rc i n ++ [.slice (some ⟨wr.heap.size, 0, none⟩) n n])) (t3 : v'.ownBlock = v.ownBlock ∨ v'.ownBlock = some (w1.alloc o).heap.size)
    (m4 : w4.ownsRow w3.heap.size 2 1 (.slice (some ⟨w3.heap.size, 0, none⟩) n n) n (List.replicate n (.int .i64 0))) (g4 : w3.grownBy w4 none)
    (g6 : (w4.alloc o').grownBy w6 u.ownBlock) (o6 : w6.ownsRow wB.heap.size 22 1 u' (i + 1) (slL rp i n ++ [.slice (some ⟨w3.heap.size, 0, none⟩) n n])) (t6 : u'.ownBlock = u.ownBlock ∨ u'.ownBlock = some (w4.alloc o').heap.size) :
    BS wB w6 (i + 1) n v' u' (fun j => if j < i then rc j else wr.heap.size) (fun j => if j < i then rp j else w3.heap.size) := by
  have s1 : wr.heap.size < w1.heap.size := (m1.lt wr.heap.size rfl).2
  have s3 := g3.size
  rw [World.size_alloc] at s3
  have s4 : w3.heap.size < w4.heap.size := (m4.lt w3.heap.size rfl).2
  have s6 := g6.size
  rw [World.size_alloc] at s6
  have sB := h.b.size
  have bv : ∀ k, v.ownBlock = some k → k < wr.heap.size := fun k hk => (h.o1.lt k hk).2
  have bu : ∀ k, u.ownBlock = some k → k < wr.heap.size := fun k hk => (h.o2.lt k hk).2
  have bv' : ∀ k, v'.ownBlock = some k → v.ownBlock = some k ∨ k = w1.heap.size + 1 := fun k hk => by
    rcases t3 with t | t
    · rw [t] at hk; exact .inl hk
    · rw [t, World.size_alloc] at hk; right; exact (Option.some.inj hk).symm
  have bu' : ∀ k, u'.ownBlock = some k → u.ownBlock = some k ∨ k = w4.heap.size + 1 := fun k hk => by
    rcases t6 with t | t
    · rw [t] at hk; exact .inl hk
    · rw [t, World.size_alloc] at hk; right; exact (Option.some.inj hk).symm
  have zm : ∀ {w : World} {r : Nat}, w.ownsRow r 2 1 (.slice (some ⟨r, 0, none⟩) n n) n (List.replicate n (.int .i64 0)) → rowZ w r n := fun hm k hk => by
    have := hm.cellAt k (by omega)
    rw [List.getElem?_replicate, if_pos hk] at this
    exact ⟨this, hm.frozenAt k⟩
  -- a row that is there at the beginning
  have keep : ∀ r, r < wr.heap.size → rowZ wr r n → v.ownBlock ≠ some r → u.ownBlock ≠ some r → rowZ w6 r n := fun r hr hz h1 h2 =>
    (((((hz.grown g1 (by simp)).grown (World.grownBy_alloc w1 o none) (by simp)).grown g3 h1).grown g4 (by simp)).grown (World.grownBy_alloc w4 o' none) (by simp)).grown g6 h2
  refine ⟨?_, ?_, fun j hj => ?_, fun j hj => ?_, fun j hj => ?_, fun j hj => ?_, fun a b ha hb e => ?_, fun a b ha hb e => ?_, fun a b ha hb e => ?_, fun a ha => ?_, fun k h1 h2 => ?_, ?_⟩
  · rw [slL_snoc]
    have k4 := o3.kept g4 (by cases v'.ownBlock <;> simp)
    refine own_kn2 (k4.alloc o') g6 (fun g hg e => ?_)
    rcases bv' g e with h1 | h1
    · exact h.a5 g h1 hg
    · have := bu g hg; omega
  · rw [slL_snoc]; exact o6
  · (try dsimp only)
    by_cases hji : j < i
    · rw [if_pos hji]
      exact keep _ (h.l1 j hji).2 (h.z1 j hji) (h.a4 j hji).1 (h.a4 j hji).2.2.1
    · rw [if_neg hji]
      exact (((((zm m1).grown (World.grownBy_alloc w1 o none) (by simp)).grown g3 (fun e => by have := bv _ e; omega)).grown g4 (by simp)).grown (World.grownBy_alloc w4 o' none) (by simp)).grown g6 (fun e => by have := bu _ e; omega)
  · (try dsimp only)
    by_cases hji : j < i
    · rw [if_pos hji]
      exact keep _ (h.l2 j hji).2 (h.z2 j hji) (h.a4 j hji).2.1 (h.a4 j hji).2.2.2
    · rw [if_neg hji]
      exact ((zm m4).grown (World.grownBy_alloc w4 o' none) (by simp)).grown g6 (fun e => by have := bu _ e; omega)
  · (try dsimp only)
    split
    · rename_i hji; have := h.l1 j hji; omega
    · omega
  · (try dsimp only)
    split
    · rename_i hji; have := h.l2 j hji; omega
    · omega
  · (try dsimp only at e)
    split at e <;> split at e
    · exact h.a1 a b (by assumption) (by assumption) e
    · have := h.l1 a (by assumption); omega
    · have := h.l1 b (by assumption); omega
    · omega
  · (try dsimp only at e)
    split at e <;> split at e
    · exact h.a2 a b (by assumption) (by assumption) e
    · have := h.l2 a (by assumption); omega
    · have := h.l2 b (by assumption); omega
    · omega
  · (try dsimp only at e)
    split at e <;> split at e
    · exact h.a3 a b (by assumption) (by assumption) e
    · have := h.l1 a (by assumption); omega
    · have := h.l2 b (by assumption); omega
    · omega
  · (try dsimp only)
    have n1 : ∀ r, (∀ k, v.ownBlock = some k → k ≠ r) → r ≠ w1.heap.size + 1 → v'.ownBlock ≠ some r := fun r h1 h2 e => by
      rcases bv' r e with h3 | h3
      · exact h1 r h3 rfl
      · exact h2 h3
    have n2 : ∀ r, (∀ k, u.ownBlock = some k → k ≠ r) → r ≠ w4.heap.size + 1 → u'.ownBlock ≠ some r := fun r h1 h2 e => by
      rcases bu' r e with h3 | h3
      · exact h1 r h3 rfl
      · exact h2 h3
    by_cases hai : a < i
    · rw [if_pos hai, if_pos hai]
      obtain ⟨q1, q2, q3, q4⟩ := h.a4 a hai
      have l1 := h.l1 a hai
      have l2 := h.l2 a hai
      exact ⟨n1 _ (fun k hk e => q1 (by rw [hk, e])) (by omega), n1 _ (fun k hk e => q2 (by rw [hk, e])) (by omega), n2 _ (fun k hk e => q3 (by rw [hk, e])) (by omega), n2 _ (fun k hk e => q4 (by rw [hk, e])) (by omega)⟩
    · rw [if_neg hai, if_neg hai]
      exact ⟨n1 _ (fun k hk e => by have := bv k hk; omega) (by omega), fun e => by have := (o3.lt _ e).2; omega, n2 _ (fun k hk e => by have := bu k hk; omega) (by omega), n2 _ (fun k hk e => by have := bu k hk; omega) (by omega)⟩
  · rcases bv' k h1 with e1 | e1 <;> rcases bu' k h2 with e2 | e2
    · exact h.a5 k e1 e2
    · have := bv k e1; omega
    · have := bu k e2; omega
    · omega
  · have c1 := h.b.grown g1 sB (fun j hj => by cases hj)
    have c2 := (c1.alloc (by omega) o).grown g3 (by rw [World.size_alloc]; omega) (fun j hj => (h.o1.lt j hj).1)
    have c3 := c2.grown g4 (by omega) (fun j hj => by cases hj)
    exact (c3.alloc (by omega) o').grown g6 (by rw [World.size_alloc]; omega) (fun j hj => (h.o2.lt j hj).1)

theorem BS.tab {wB W : World} {n gC cC gP cP : Nat} {rc rp : Nat → Nat} (h : BS wB W n n (.slice (some ⟨gC, 0, none⟩) n cC) (.slice (some ⟨gP, 0, none⟩) n cP) rc rp) : TabS W gC gP rc rp n (fun _ _ => (0, 0)) ∧ Apt gC gP rc rp n := by
  refine ⟨fun i hi => ⟨?_, ?_, fun k hk => ?_⟩, h.a1, h.a2, h.a3, fun i hi => ?_⟩
  · have := h.o1.cellAt i (by omega)
    rw [slL_at rc n n i hi] at this
    exact this
  · have := h.o2.cellAt i (by omega)
    rw [slL_at rp n n i hi] at this
    exact this
  · obtain ⟨a, b⟩ := h.z1 i hi k hk
    obtain ⟨c, d⟩ := h.z2 i hi k hk
    exact ⟨a, c, b, d⟩
  · obtain ⟨a, b, c, d⟩ := h.a4 i hi
    exact ⟨fun e => a (by rw [e]; rfl), fun e => c (by rw [e]; rfl), fun e => b (by rw [e]; rfl), fun e => d (by rw [e]; rfl)⟩

set_option maxRecDepth 100000 in
set_option maxHeartbeats 3000000 in
theorem spec_OrderedCode (w : World) (v : Value) (xs : List Int) (hv : SlR w v (xs.map (Value.int .i64))) (_ : ∀ x ∈ xs, I64 x) (_ : xs.length ≤ 1048576) :
    Calls Try.prog 9 #[v] w (RetRd w (out_OrderedCode xs).1.length ((out_OrderedCode xs).1.map (Value.int .i64)) (fun v => .tuple #[.agg #[v], .bool (out_OrderedCode xs).2])) := by
  refine Calls.mono (R := RetSl w 2 (out_OrderedCode xs).1.length ((out_OrderedCode xs).1.map (Value.int .i64)) (fun v => .tuple #[.agg #[v], .bool (out_OrderedCode xs).2])) ?_ (fun _ _ h => h.rd)
  obtain ⟨i0, hi0, hz00, hz01, hz02⟩ := info_parts info_Int64S
  obtain ⟨i1, hi1, hz10, hz11, hz12⟩ := info_parts info_Sl
  obtain ⟨w1, hw1⟩ : ∃ w1, w1 = w.alloc (.cells #[.slice none 0 0] 24) := ⟨_, rfl⟩
  have hb1 : Below w.heap.size w w1 := by rw [hw1]; go_grown
  have hv1 := hv.below hb1
  have hc1 : w1.cell? ⟨w.heap.size, 0, none⟩ = some (.slice none 0 0) := by rw [hw1]; go_cell
  have hf1 : w1.frozen? ⟨w.heap.size, 0, none⟩ = false := by rw [hw1]; simp
  have hs1 : w1.heap.size = w.heap.size + 1 := by rw [hw1]; simp
  obtain ⟨a, n, c, rfl, hnl, hnc, hcm, hcell⟩ := SlR.opened 0 hv1
  unfold maxLen at hcm
  have HN := Lib.hid hnl
  cases hk : wOk xs
  · rw [outOC_no hk]
    have HK := Lib.hid hk
    clear hk hcell hnl
    go_enter Try.func9, Try.ntmps9
    go_wp2_with fail
    rw [← hw1]
    clear hw1
    go_wp2_with (go_at_call 33; refine (l04Weights_any _ xs _ hv1).mono ?_; rw [HK.out]; rintro e w2 ⟨rfl, rfl⟩)
    refine bodyPost_ret (v := .tuple #[.agg #[.slice none 0 0], .bool false]) (by simp [results, Try.results9, go_sem, *]) rfl ?_
    exact RetSl.mk (f := fun v => .tuple #[.agg #[v], .bool false]) (World.ownsRow_nil _ _ _ _) (hb1.setCell (p := ⟨w.heap.size, 0, none⟩) (Nat.le_refl _) _)
  · have HK := Lib.hid hk
    obtain ⟨p1, p2, p3⟩ := wOk_parts hk
    rw [hnl] at p1 p2
    by_cases hn1 : n = 1
    · subst hn1
      rw [outOC_one hk (by omega)]
      have HV1 : Hid (validC [1] = true) := by show _ = _; decide
      clear hk hcell hnl p1 p2 p3
      go_enter Try.func9, Try.ntmps9
      go_wp2_with fail
      rw [← hw1]
      clear hw1
      go_wp2_with (first
        | (go_at_call 33; refine (l04Weights_any _ xs _ hv1).mono ?_; rw [HK.out]; rintro e w2 ⟨rfl, rfl⟩)
        | (at_make; refine wpList_make_full _ rfl _ _ 22 rfl w1.heap.size 2 i0 (.int .i64 0) 1 Try.underlying22 hi0 hz00 hz01 .i64 .i64 _ _ 1 rfl rfl rfl rfl (by rw [hz02]; omega) (by unfold maxLen; omega) (Nat.le_refl _) ?_; intro w5 hown hgr; rw [Nat.mul_one, show (Value.cells (.int .i64 0)) = #[.int .i64 0] from rfl, toList_madeCells_one, hs1] at hown; have hcc := hown.cellAt 0 (by omega); have hff := hown.frozenAt 0; rw [List.getElem?_replicate, if_pos (by omega)] at hcc))
      have hst := hown.stored 0 (.int .i64 1)
      have hrow : (w5.setCell ⟨w.heap.size + 1, 0, none⟩ (.int .i64 1)).ownsRow (w.heap.size + 1) 2 1 (.slice (some ⟨w.heap.size + 1, 0, none⟩) 1 1) 1 ([1].map (Value.int .i64)) := hst.1
      have hb5 : Below w1.heap.size w1 w5 := (Below.refl _ _).grown hgr (Nat.le_refl _) (by simp)
      have hk1 := cell_step hc1 hb5
      have hk2 := (hb5.frozen (p := ⟨w.heap.size, 0, none⟩) (show w.heap.size < _ by omega)).trans hf1
      have hk3 : (w5.setCell ⟨w.heap.size + 1, 0, none⟩ (.int .i64 1)).cell? ⟨w.heap.size, 0, none⟩ = some (.slice none 0 0) := (OS.cell.cell_other (show w.heap.size ≠ w.heap.size + 1 by omega)).trans hk1
      have hk4 : (w5.setCell ⟨w.heap.size + 1, 0, none⟩ (.int .i64 1)).frozen? ⟨w.heap.size, 0, none⟩ = false := (World.frozen?_setCell _ _ _ _).trans hk2
      have hb6 : Below w.heap.size w (w5.setCell ⟨w.heap.size + 1, 0, none⟩ (.int .i64 1)) := (hb1.trans (hb5.mono (by omega))).setCell (p := ⟨w.heap.size + 1, 0, none⟩) (Nat.le_succ _) _
      have hso := SlR.own hrow
      have hlt := World.block_lt_of_cell? _ _ hk3
      generalize w5.setCell ⟨w.heap.size + 1, 0, none⟩ (.int .i64 1) = w6 at *
      refine (l04Give_yes _ _ _ hso HV1.out).mono ?_
      rintro e wF ⟨rfl, hbF⟩
      have hk5 := cell_step hk3 hbF
      have hk6 := (hbF.frozen (p := ⟨w.heap.size, 0, none⟩) hlt).trans hk4
      go_wp2
      refine bodyPost_ret (v := .tuple #[.agg #[.slice (some ⟨w.heap.size + 1, 0, none⟩) 1 1], .bool true]) (by simp [results, Try.results9, go_sem, *]) rfl ?_
      exact RetSl.mk (f := fun v => .tuple #[.agg #[v], .bool true]) (ownsRow_base (ownsRow_setCell_below (ownsRow_below hrow hbF) (a := ⟨w.heap.size, 0, none⟩) (Nat.lt_succ_self _) _) (Nat.le_succ _)) ((hb6.trans (hbF.mono hb6.size)).setCell (p := ⟨w.heap.size, 0, none⟩) (Nat.le_refl _) _)
    · have hn3 : ¬ (n : Int) = 1 := by omega
      have hp2 := p2
      have HALL := Lib.hid p3
      have HINV : Hid (∀ m i, m + 1 < n → i + (m + 1) ≤ n → TInv (dpI xs (m + 1) (dpW xs m) i)) := Lib.hid (fun m i hm hi => dpI_inv p3 (by omega) (dpW_inv p3 (by omega) m (by omega)) (m + 1) (by omega) i (by omega))
      have HC : Hid (∀ W, Below w.heap.size w W → ∀ k, k < n → ∃ b off, a = some ⟨b, off, none⟩ ∧ W.cell? ⟨b, off + k, none⟩ = some (.int .i64 (xs[k]?.getD 0)) ∧ b < w.heap.size) := by
        show ∀ W, _
        intro W hW k hk
        obtain ⟨a2, n2, c2, e, hnl2, -, -, hcell2⟩ := SlR.opened 0 hv
        cases e
        obtain ⟨b, off, hb, hc, hbl⟩ := hcell2 k (by omega)
        rw [List.getD_eq_getElem?_getD] at hc
        exact ⟨b, off, hb, (hW.cell (p := ⟨b, off + k, none⟩) hbl).trans hc, hbl⟩
      have HWB : Hid (∀ m, (m : Nat) ≤ n → ∀ i, i + m ≤ n → 0 ≤ wsm xs i m ∧ wsm xs i m ≤ 1000000 * (m : Int)) := Lib.hid (fun m hm i hi => wsm_bd p3 (by omega) i m (by omega))
      clear hk hcell hnl p3
      go_enter Try.func9, Try.ntmps9
      go_wp2_with fail
      rw [← hw1]
      clear hw1
      go_wp2_with (first
        | (go_at_call 33; refine (l04Weights_any _ xs _ hv1).mono ?_; rw [HK.out]; rintro e w2 ⟨rfl, rfl⟩)
        | (at_make; refine wpList_make_full _ rfl _ _ 22 rfl w1.heap.size 2 i0 (.int .i64 0) 1 Try.underlying22 hi0 hz00 hz01 .i64 .i64 _ _ n rfl rfl rfl rfl (by rw [hz02]; omega) (by unfold maxLen; omega) (Nat.le_refl _) ?_; intro w5 hown hgr; rw [Nat.mul_one, show (Value.cells (.int .i64 0)) = #[.int .i64 0] from rfl, toList_madeCells_one, hs1] at hown; have hcc := hown.cellAt 0 (by omega); have hff := hown.frozenAt 0; rw [List.getElem?_replicate, if_pos (by omega)] at hcc))
      have hb5 : Below w1.heap.size w1 w5 := (Below.refl _ _).grown hgr (Nat.le_refl _) (by simp)
      have hk1 := cell_step hc1 hb5
      have hk2 := (hb5.frozen (p := ⟨w.heap.size, 0, none⟩) (show w.heap.size < _ by omega)).trans hf1
      have hbB : Below w.heap.size w w5 := hb1.trans (hb5.mono (by omega))
      have hltB : w.heap.size + 1 < w5.heap.size := (hown.lt (w.heap.size + 1) rfl).2
      have hne1 : ((n : Int) == 1) = false := by simpa using hn3
      have hS0 : BS w5 ((w5.alloc (.cells #[] 22)).alloc (.cells #[] 22)) 0 n (.slice (some ⟨w5.heap.size, 0, none⟩) 0 0) (.slice (some ⟨w5.heap.size + 1, 0, none⟩) 0 0) (fun _ => 0) (fun _ => 0) := by
        have h1 : (w5.alloc (.cells #[] 22)).ownsRow w5.heap.size 22 1 (.slice (some ⟨w5.heap.size, 0, none⟩) 0 0) 0 [] := World.ownsRow_made w5 #[] 0 (Nat.le_refl _) (Nat.zero_le _) rfl
        have h2 : ((w5.alloc (.cells #[] 22)).alloc (.cells #[] 22)).ownsRow w5.heap.size 22 1 (.slice (some ⟨(w5.alloc (.cells #[] 22)).heap.size, 0, none⟩) 0 0) 0 [] := World.ownsRow_made _ #[] 0 (by simp) (Nat.zero_le _) rfl
        rw [World.size_alloc] at h2
        exact ⟨h1.alloc _, h2, fun j hj => by omega, fun j hj => by omega, fun j hj => by omega, fun j hj => by omega, fun a b ha => by omega, fun a b ha => by omega, fun a b ha => by omega, fun a ha => by omega, fun k e1 e2 => by simp [Value.ownBlock] at e1 e2; omega, by go_grown⟩
      rw [hne1]
      clear hne1 hcc hff
      generalize (w5.alloc (.cells #[] 22)).alloc (.cells #[] 22) = w6 at *
      go_loopw [6, 7, 8] (fun x y q wr => ∃ (i : Nat) (rc rp : Nat → Nat), q = .int .i64 (i : Int) ∧ i ≤ n ∧ BS w5 wr i n x y rc rp) (fun _ _ q _ => n - (intOf q).toNat)
      case atStart => exact ⟨0, _, _, rfl, Nat.zero_le _, hS0⟩
      case round =>
        clear hS0
        obtain ⟨i, rc, rp, rfl, hi, hS⟩ := hrel
        have HS := Lib.hid hS
        by_cases hin : i < n
        · have o1 := hS.o1
          have o2 := hS.o2
          have ha5 := Lib.hid hS.a5
          have hbs := hS.b.size
          clear hS
          go_wp2_with (first
            | (at_builtin; refine wpList_append_own_at _ rfl _ _ 58 rfl w5.heap.size 22 i1 _ 1 24 Try.underlying58 hi1 hz10 hz11 hz12 rfl (by decide) u7 i _ rfl (o2c.alloc _) ⟨wc.heap.size, 0, none⟩ 1 1 [.slice (some ⟨wb.heap.size, 0, none⟩) n n] rfl rfl (cell_one_new _ _ _) (one_oneCell rfl) (by unfold maxLen; omega) (by omega) (by simp only [World.size_alloc]; omega) ?_; intro v2 wd o6 g6 _ t6)
            | (at_make; refine wpList_make_full _ rfl _ _ 22 rfl wb.heap.size 2 i0 (.int .i64 0) 1 Try.underlying22 hi0 hz00 hz01 .i64 .i64 _ _ n rfl rfl rfl rfl (by rw [hz02]; omega) (by unfold maxLen; omega) (Nat.le_refl _) ?_; intro wc m4 g4; rw [Nat.mul_one, show (Value.cells (.int .i64 0)) = #[.int .i64 0] from rfl, toList_madeCells_one] at m4; have o2c := (own_kn2 (u := u6) ((o2.kept g1 (by cases u7.ownBlock <;> simp)).alloc _) g3 ha5.out).kept g4 (by cases u7.ownBlock <;> simp); have gs4 := g4.size)
            | (at_builtin; refine wpList_append_own_at _ rfl _ _ 58 rfl w5.heap.size 22 i1 _ 1 24 Try.underlying58 hi1 hz10 hz11 hz12 rfl (by decide) u6 i _ rfl (o1a.alloc _) ⟨wa.heap.size, 0, none⟩ 1 1 [.slice (some ⟨wr.heap.size, 0, none⟩) n n] rfl rfl (cell_one_new _ _ _) (one_oneCell rfl) (by unfold maxLen; omega) (by omega) (by simp only [World.size_alloc]; omega) ?_; intro v1 wb o3 g3 _ t3; have gs3 := g3.size; simp only [World.size_alloc] at gs3)
            | (at_make; refine wpList_make_full _ rfl _ _ 22 rfl wr.heap.size 2 i0 (.int .i64 0) 1 Try.underlying22 hi0 hz00 hz01 .i64 .i64 _ _ n rfl rfl rfl rfl (by rw [hz02]; omega) (by unfold maxLen; omega) (Nat.le_refl _) ?_; intro wa m1 g1; rw [Nat.mul_one, show (Value.cells (.int .i64 0)) = #[.int .i64 0] from rfl, toList_madeCells_one] at m1; have o1a := o1.kept g1 (by cases u6.ownBlock <;> simp); have gs1 := g1.size))
          have HNX := Lib.hid (HS.out.step _ _ m1 g1 g3 o3 t3 m4 g4 g6 o6 t6)
          clear m1 g1 g3 o3 t3 m4 g4 g6 o6 t6 o1a o2c gs1 gs3 gs4
          go_roundw
          case rel => exact ⟨i + 1, _, _, by go_num, by omega, HNX.out⟩
          case measure => simp [intOf]; omega
        · obtain rfl : i = n := by omega
          obtain ⟨aC, cC, rfl⟩ := ownsRow_shape hS.o1
          obtain ⟨aP, cP, rfl⟩ := ownsRow_shape hS.o2
          obtain ⟨gC, rfl, gC1, gC2⟩ := own_some hS.o1 (by omega)
          obtain ⟨gP, rfl, gP1, gP2⟩ := own_some hS.o2 (by omega)
          obtain ⟨hT0, hApt⟩ := hS.tab
          have HAPT := Lib.hid hApt
          have hcP : i ≤ cP := by
            obtain ⟨-, h2⟩ := hS.o2
            rcases h2 with ⟨h2, -⟩ | ⟨g, cap, cur, h2, -, -, h3, -⟩
            · cases h2
            · cases h2; exact h3
          have HLOW : Hid (∀ j, j < i → w5.heap.size ≤ rc j ∧ w5.heap.size ≤ rp j) := Lib.hid (fun j hj => ⟨(hS.l1 j hj).1, (hS.l2 j hj).1⟩)
          have hb6 := hS.b
          have hTs : TabS wr gC gP rc rp i (dpW xs 0) := hT0
          clear hS HS hT0 hApt
          go_wp2
          go_loopw [9] (fun q wr => ∃ m : Nat, q = .int .i64 ((m + 1 : Nat) : Int) ∧ m + 1 ≤ i ∧ TabS wr gC gP rc rp i (dpW xs m) ∧ Below w5.heap.size w5 wr) (fun q _ => i - (intOf q).toNat)
          case atStart => exact ⟨0, rfl, by omega, hTs, hb6⟩
          case round =>
            clear hTs hb6
            obtain ⟨m, rfl, hm, hT, hb⟩ := hrel
            by_cases hmn : m + 1 < i
            · obtain ⟨wd, hwd⟩ : ∃ wd, wd = m + 1 := ⟨_, rfl⟩
              have HWD := Lib.hid hwd
              rw [← hwd] at hmn ⊢
              have hwd1 : 1 ≤ wd := by omega
              have HSTEP : Hid (dpW xs wd = dpI xs wd (dpW xs m) (i - wd)) := by show _ = _; rw [hwd]; show dpI xs (m + 1) (dpW xs m) (xs.length - (m + 1)) = _; rw [HN.out]
              have HINV2 : Hid (∀ r, r + wd ≤ i → TInv (dpI xs wd (dpW xs m) r)) := Lib.hid (fun r hr => by rw [hwd]; exact HINV.out m r (by omega) (by omega))
              have HZER : Hid (∀ r, r + wd < i → (dpI xs wd (dpW xs m) r r (r + wd)) = (0, 0)) := Lib.hid (fun r hr => by rw [dpI_out _ _ _ _ (by omega)]; exact dpW_zero m r (r + wd) (by omega))
              clear hwd
              go_wp2
              go_loopw [10] (fun q wr => ∃ r : Nat, q = .int .i64 (r : Int) ∧ r ≤ i - wd ∧ TabS wr gC gP rc rp i (dpI xs wd (dpW xs m) r) ∧ Below w5.heap.size w5 wr) (fun q _ => i - wd - (intOf q).toNat)
              case atStart => exact ⟨0, rfl, Nat.zero_le _, hT, hb⟩
              case round =>
                clear hT hb
                obtain ⟨r, rfl, hr, hT, hb⟩ := hrel
                by_cases hrn : r < i - wd
                · obtain ⟨T, hTd⟩ : ∃ T, T = dpI xs wd (dpW xs m) r := ⟨_, rfl⟩
                  rw [← hTd] at hT
                  have HINV3 : Hid (TInv T) := by show TInv T; rw [hTd]; exact HINV2.out r (by omega)
                  have HZ0 : T r (r + wd) = (0, 0) := by rw [hTd]; exact HZER.out r (by omega)
                  have HNX : Hid (dpI xs wd (dpW xs m) (r + 1) = tupd T r (r + wd) (cel xs T r (r + wd))) := by show _ = _; rw [hTd]; rfl
                  obtain ⟨k, hk⟩ : ∃ k, k = r + wd := ⟨_, rfl⟩
                  have HK2 := Lib.hid hk
                  rw [← hk] at HNX HZ0
                  have e2 : IntKind.i64.wrap ((r : Int) + (wd : Int)) = (k : Int) := by rw [hk, Int.natCast_add]; exact IntWalk.i64_in _ (by omega)
                  have hkn : k < i := by omega
                  have hrk : r < k := by omega
                  have hT1 : TabS wr gC gP rc rp i (tupd T r k ((T r k).1, (bst T r k 0).2)) := by rw [tupd_same _ (by rw [HZ0]; rfl)]; exact hT
                  clear hT hk hTd HZ0
                  go_wp2
                  go_loopw [12, 13] (fun bq q wr => ∃ mm : Nat, bq = .int .i64 (bst T r k mm).1 ∧ q = .int .i64 ((r + mm : Nat) : Int) ∧ r + mm ≤ k ∧ TabS wr gC gP rc rp i (tupd T r k ((T r k).1, (bst T r k mm).2)) ∧ Below w5.heap.size w5 wr) (fun _ q _ => k - (intOf q).toNat)
                  case atStart => exact ⟨0, rfl, rfl, by omega, hT1, hb⟩
                  case round =>
                    clear hT1 hb
                    obtain ⟨mm, rfl, rfl, hmm, hT, hb⟩ := hrel
                    have hbd := bst_bd HINV3.out r k mm hmm
                    by_cases hjk : r + mm < k
                    · obtain ⟨j, hj⟩ : ∃ j, j = r + mm := ⟨_, rfl⟩
                      have HJ := Lib.hid hj
                      have HST : Hid (bst T r k (mm + 1) = if (bst T r k mm).1 < 0 ∨ (T r j).1 + (T (j + 1) k).1 < (bst T r k mm).1 then ((T r j).1 + (T (j + 1) k).1, j) else bst T r k mm) := by show _ = _; rw [hj]; rfl
                      rw [← hj] at hjk ⊢
                      have hx := HINV3.out r j
                      have hy := HINV3.out (j + 1) k
                      have HTT := Lib.hid hT
                      obtain ⟨c1, -, d2⟩ := hT r (by omega)
                      obtain ⟨c2, -⟩ := d2 j (by omega)
                      obtain ⟨c3, -, d4⟩ := hT (j + 1) (by omega)
                      obtain ⟨c4, -⟩ := d4 k hkn
                      clear d2 d4
                      rw [tupd_fst] at c2
                      rw [tupd_fst] at c4
                      generalize (T r j).1 = x at *
                      generalize (T (j + 1) k).1 = y at *
                      have hx1 : 0 ≤ x ∧ x ≤ 16000000 * 16 := by omega
                      have hy1 : 0 ≤ y ∧ y ≤ 16000000 * 16 := by omega
                      have g1 : (r : Int) < (i : Int) := by omega
                      have g2 : (j : Int) < (i : Int) := by omega
                      have g3 : ((j + 1 : Nat) : Int) < (i : Int) := by omega
                      have g4 : (k : Int) < (i : Int) := by omega
                      have g5 : (0 : Int) ≤ ((j + 1 : Nat) : Int) := by omega
                      have g6 : ((j + 1 : Nat) : Int).toNat = j + 1 := by omega
                      have e3 : IntKind.i64.wrap ((j : Int) + 1) = ((j + 1 : Nat) : Int) := by rw [Int.natCast_add]; exact IntWalk.i64_in _ (by omega)
                      have e4 : IntKind.i64.wrap (x + y) = x + y := IntWalk.i64_in _ (by omega)
                      clear hx hy hj hT
                      go_wp2_with fail
                      go_quiet (fail)
                      have hk1 := ((Qu.refl wr).drewN nq).keep
                      have hT2 := HTT.out.below hk1
                      have hb2 := hb.trans (hk1.mono hb.size)
                      clear HTT hb c1 c2 c3 c4
                      generalize wr.drewN nq = wq at *
                      have HT2 := Lib.hid hT2
                      have HB2 := Lib.hid hb2
                      obtain ⟨-, f1, d2⟩ := hT2 r (by omega)
                      obtain ⟨-, f2, -, f3⟩ := d2 k hkn
                      clear d2
                      clear hT2 hb2 e3 e4 g6
                      have HNEW : Hid (∀ z : Int, bst T r k (mm + 1) = (z, j) → TabS (wq.setCell ⟨rp r, k, none⟩ (.int .i64 (j : Int))) gC gP rc rp i (tupd T r k ((T r k).1, (bst T r k (mm + 1)).2)) ∧ Below w5.heap.size w5 (wq.setCell ⟨rp r, k, none⟩ (.int .i64 (j : Int)))) := by
                        show ∀ z : Int, _
                        intro z hz
                        have h := HT2.out.setP HAPT.out (show r < i by omega) hkn j
                        rw [tupd_tupd, tupd_fst] at h
                        exact ⟨by rw [hz]; exact h, HB2.out.setCell (p := ⟨rp r, k, none⟩) (HLOW.out r (by omega)).2 _⟩
                      generalize hbm : bst T r k mm = bm at *
                      by_cases hz : bm.1 < 0
                      · have HN2 : Hid (bst T r k (mm + 1) = (x + y, j)) := by show _ = _; rw [HST.out, if_pos (.inl hz)]
                        go_wp2
                        go_roundw
                        case rel => exact ⟨mm + 1, by rw [HN2.out], by have := HJ.out; go_num, by have := HJ.out; omega, (HNEW.out _ HN2.out).1, (HNEW.out _ HN2.out).2⟩
                        case measure => simp [intOf]; omega
                      · by_cases hlt : x + y < bm.1
                        · have HN2 : Hid (bst T r k (mm + 1) = (x + y, j)) := by show _ = _; rw [HST.out, if_pos (.inr hlt)]
                          go_wp2
                          go_roundw
                          case rel => exact ⟨mm + 1, by rw [HN2.out], by have := HJ.out; go_num, by have := HJ.out; omega, (HNEW.out _ HN2.out).1, (HNEW.out _ HN2.out).2⟩
                          case measure => simp [intOf]; omega
                        · have HN2 : Hid (bst T r k (mm + 1) = bm) := by show _ = _; rw [HST.out, if_neg (fun h => h.elim hz hlt)]
                          go_wp2
                          go_roundw
                          case rel => exact ⟨mm + 1, by rw [HN2.out], by have := HJ.out; go_num, by have := HJ.out; omega, by rw [HN2.out]; exact HT2.out, HB2.out⟩
                          case measure => simp [intOf]; omega
                    · obtain rfl : mm = k - r := by omega
                      obtain ⟨bd1, bd2, bd3⟩ := hbd
                      obtain ⟨bd3, bd4, bd5⟩ := bd3 (by omega)
                      have HCEL : Hid (cel xs T r k = ((bst T r k (k - r)).1 + wsm xs r (k + 1 - r), (bst T r k (k - r)).2)) := Lib.hid rfl
                      have HTT := Lib.hid hT
                      generalize bst T r k (k - r) = bm at *
                      have hbw : Below w.heap.size w wr := hbB.trans (hb.mono (by omega))
                      obtain ⟨b0, off, rfl, -, hbl⟩ := HC.out _ hbw 0 (by omega)
                      have HC2 : Hid (∀ q, q < i → wr.cell? ⟨b0, off + q, none⟩ = some (.int .i64 (xs[q]?.getD 0))) := by
                        show ∀ q, _
                        intro q hq
                        obtain ⟨b, o, he, hc, -⟩ := HC.out wr hbw q hq
                        cases he
                        exact hc
                      have HWS : Hid (∀ q, wsm xs r (q + 1) = wsm xs r q + xs[r + q]?.getD 0) := Lib.hid (fun q => rfl)
                      have HW0 : Hid (wsm xs r 0 = 0) := Lib.hid rfl
                      clear hT
                      go_wp2
                      go_loop [12, 15] (fun bq q => ∃ mm : Nat, bq = .int .i64 (bm.1 + wsm xs r mm) ∧ q = .int .i64 ((r + mm : Nat) : Int) ∧ mm ≤ k + 1 - r) (fun _ q => k + 1 - (intOf q).toNat)
                      case atStart => exact ⟨0, by rw [HW0.out, Int.add_zero], rfl, Nat.zero_le _⟩
                      case round =>
                        obtain ⟨mm, rfl, rfl, hmm⟩ := hrel
                        obtain ⟨v1, v2⟩ := HWB.out mm (by omega) r (by omega)
                        by_cases hml : mm < k + 1 - r
                        · obtain ⟨j, hj⟩ : ∃ j, j = r + mm := ⟨_, rfl⟩
                          have HJ := Lib.hid hj
                          have hws := HWS.out mm
                          have hv2 := HWB.out (mm + 1) (by omega) r (by omega)
                          rw [hws] at hv2
                          rw [← hj] at hws hv2 ⊢
                          have HW2 := Lib.hid hws
                          have hcw := HC2.out j (by omega)
                          clear hws
                          generalize xs[j]?.getD 0 = z at *
                          generalize wsm xs r mm = sm at *
                          have e6 : IntKind.i64.wrap (bm.1 + sm + z) = bm.1 + sm + z := IntWalk.i64_in _ (by omega)
                          have g1 : (j : Int) ≤ (k : Int) := by omega
                          have g2 : (j : Int) < (i : Int) := by omega
                          clear hj
                          go_wp2
                          go_round
                          case rel => exact ⟨mm + 1, by rw [HW2.out, Int.add_assoc], by have := HJ.out; go_num, by omega⟩
                          case measure => have := HJ.out; simp [intOf]; omega
                        · obtain rfl : mm = k + 1 - r := by omega
                          have HNN : Hid (TabS (wr.setCell ⟨rc r, k, none⟩ (.int .i64 (bm.1 + wsm xs r (k + 1 - r)))) gC gP rc rp i (dpI xs wd (dpW xs m) (r + 1)) ∧ Below w5.heap.size w5 (wr.setCell ⟨rc r, k, none⟩ (.int .i64 (bm.1 + wsm xs r (k + 1 - r))))) := by
                            have h := HTT.out.setC HAPT.out (show r < i by omega) hkn (bm.1 + wsm xs r (k + 1 - r))
                            rw [tupd_tupd, tupd_at] at h
                            exact ⟨by rw [HNX.out, HCEL.out]; exact h, hb.setCell (p := ⟨rc r, k, none⟩) (HLOW.out r (by omega)).1 _⟩
                          obtain ⟨f1, -, d2⟩ := HTT.out r (by omega)
                          obtain ⟨f2, -, f3, -⟩ := d2 k hkn
                          clear d2
                          generalize bm.1 + wsm xs r (k + 1 - r) = cst at *
                          have g1 : (r : Int) < (i : Int) := by omega
                          have g4 : (k : Int) < (i : Int) := by omega
                          have g5 : ¬ ((r + (k + 1 - r) : Nat) : Int) ≤ (k : Int) := by omega
                          go_wp2
                          go_roundw
                          case rel => exact ⟨r + 1, by go_num, by omega, HNN.out.1, HNN.out.2⟩
                          case measure => simp [intOf]; omega
                · obtain rfl : r = i - wd := by omega
                  have HE : Hid (TabS wr gC gP rc rp i (dpW xs wd)) := by show TabS _ _ _ _ _ _ _; rw [HSTEP.out]; exact hT
                  have e9 : IntKind.i64.wrap (((i - wd : Nat) : Int) + (wd : Int)) = (i : Int) := by rw [show ((i - wd : Nat) : Int) + (wd : Int) = (i : Int) by omega]; exact IntWalk.i64_in _ (by omega)
                  go_wp2
                  go_roundw
                  case rel => exact ⟨wd, by go_num, by omega, HE.out, hb⟩
                  case measure => have := HWD.out; simp [intOf]; omega
            · have hmn2 : i = m + 1 := by omega
              have HM := Lib.hid hmn2
              have HT : Hid (dpW xs m = dpW xs (xs.length - 1)) := by show _ = _; rw [HN.out, hmn2]; rfl
              obtain ⟨T, hTT⟩ : ∃ T, T = dpW xs m := ⟨_, rfl⟩
              rw [← hTT] at hT HT
              clear hmn2
              have hmi : ¬ ((m + 1 : Nat) : Int) < (i : Int) := by omega
              have hp16 : (2 : Int) ^ i ≤ 65536 := by
                have h1 : 2 ^ i ≤ 2 ^ 16 := Nat.pow_le_pow_right (by omega) p2
                have e : ((2 : Int) ^ i) = ((2 ^ i : Nat) : Int) := by simp
                rw [e]; omega
              have hown2 : w5.ownsRow (w.heap.size + 1) 2 1 (.slice (some ⟨w.heap.size + 1, 0, none⟩) i i) i ((List.replicate i (0 : Int)).map (Value.int .i64)) := by rw [List.map_replicate]; exact hown
              have hrow := ownsRow_below hown2 hb
              have hSS : SS wr (w.heap.size + 1) gC gP (w.heap.size + 1) cP i rc rp T (List.replicate i 0) := ⟨hT, hrow⟩
              have hcR : wr.cell? ⟨w.heap.size, 0, none⟩ = some (.slice none 0 0) := (hb.cell (p := ⟨w.heap.size, 0, none⟩) (show w.heap.size < _ by omega)).trans hk1
              have hfR : wr.frozen? ⟨w.heap.size, 0, none⟩ = false := (hb.frozen (p := ⟨w.heap.size, 0, none⟩) (show w.heap.size < _ by omega)).trans hk2
              have hbR : Below w.heap.size w wr := hbB.trans (hb.mono (by omega))
              have e9 : IntKind.i64.wrap ((i : Int) - 1) = ((i - 1 : Nat) : Int) := by rw [show (i : Int) - 1 = ((i - 1 : Nat) : Int) by omega]; exact IntWalk.i64_in _ (by omega)
              clear hk1 hk2 hown hT
              go_wp2_with fail
              refine (l04Deepen_any (w.heap.size + 1) gC gP (w.heap.size + 1) cP i rc rp T p2 hcP (by omega) (by omega) (fun q hq => by have := HLOW.out q hq; omega) (fun x y h1 h2 => ?_) i 0 (i - 1) wr (List.replicate i 0) 0 (by omega) (Nat.zero_le _) (by omega) (by simp) hSS (by omega) (by omega) (fun x hx => by rw [List.mem_replicate] at hx; rw [hx.2]; omega)).mono ?_
              · rw [hTT]
                exact dpW_at HALL.out (by have := HN.out; omega) m x y (by have := HN.out; have := HM.out; omega) h1 (by have := HN.out; omega) (by have := HM.out; omega)
              rintro e wE ⟨rfl, hDE, hgE⟩
              obtain ⟨L, hL⟩ : ∃ L, L = deep T i 0 (i - 1) (List.replicate i 0) := ⟨_, rfl⟩
              rw [← hL] at hDE
              have HLL : Hid (L = deep (dpW xs (xs.length - 1)) xs.length 0 (xs.length - 1) (List.replicate xs.length 0)) := by show _ = _; rw [hL, HT.out, HN.out]
              have hLn : L.length = i := by rw [hL, deep_length, List.length_replicate]
              have hcE : wE.cell? ⟨w.heap.size, 0, none⟩ = some (.slice none 0 0) := TabR.grown.cell_grown1 hgE hcR (by show w.heap.size ≠ _; omega)
              have hfE : wE.frozen? ⟨w.heap.size, 0, none⟩ = false := (World.frozen?_of_block (hgE.block w.heap.size (World.block_lt_of_cell? wr ⟨w.heap.size, 0, none⟩ hcR) (fun e => by have := Option.some.inj e; omega))).trans hfR
              have hbE : Below w.heap.size w wE := hbR.grown hgE hbR.size (fun j hj => by have := Option.some.inj hj; omega)
              obtain ⟨d1, d4⟩ := hDE
              have hso := SlR.own d4
              have hKEEP : Hid (∀ W, Below wE.heap.size wE W → W.cell? ⟨w.heap.size, 0, none⟩ = some (.slice none 0 0) ∧ W.frozen? ⟨w.heap.size, 0, none⟩ = false ∧ Below w.heap.size w W ∧ W.ownsRow (w.heap.size + 1) 2 1 (.slice (some ⟨w.heap.size + 1, 0, none⟩) i i) i (L.map (Value.int .i64))) := by
                show ∀ W, _
                intro W hW
                exact ⟨cell_step hcE hW, (hW.frozen (p := ⟨w.heap.size, 0, none⟩) (World.block_lt_of_cell? wE ⟨w.heap.size, 0, none⟩ hcE)).trans hfE, hbE.trans (hW.mono hbE.size), ownsRow_below d4 hW⟩
              clear hL d1 d4 hcE hfE hbE hgE hcR hfR hbR hrow hSS hown2 hTT hb5 hgr hb
              cases hvc : validC L
              · have HR := Lib.hid (outOC_bad HK.out (by have := HN.out; omega) HLL.out hvc)
                have HVC := Lib.hid hvc
                clear hvc
                go_wp2_with (go_at_call 34; refine (l04Give_no _ _ _ hso HVC.out).mono ?_; rintro e wF ⟨rfl, hbF⟩; obtain ⟨k1, k2, k3, k4⟩ := hKEEP.out _ hbF)
                refine bodyPost_ret (v := .tuple #[.agg #[.slice none 0 0], .bool false]) (by simp [results, Try.results9, go_sem, *]) rfl ?_
                rw [HR.out]
                exact RetSl.mk (f := fun v => .tuple #[.agg #[v], .bool false]) (World.ownsRow_nil _ _ _ _) (k3.setCell (p := ⟨w.heap.size, 0, none⟩) (Nat.le_refl _) _)
              · have HR := Lib.hid (outOC_yes HK.out (by have := HN.out; omega) HLL.out hvc)
                have HVC := Lib.hid hvc
                clear hvc
                go_wp2_with (go_at_call 34; refine (l04Give_yes _ _ _ hso HVC.out).mono ?_; rintro e wF ⟨rfl, hbF⟩; obtain ⟨k1, k2, k3, k4⟩ := hKEEP.out _ hbF)
                refine bodyPost_ret (v := .tuple #[.agg #[.slice (some ⟨w.heap.size + 1, 0, none⟩) i i], .bool true]) (by simp [results, Try.results9, go_sem, *]) rfl ?_
                rw [HR.out]
                dsimp only
                rw [hLn]
                exact RetSl.mk (f := fun v => .tuple #[.agg #[v], .bool true]) (ownsRow_base (ownsRow_setCell_below k4 (a := ⟨w.heap.size, 0, none⟩) (Nat.lt_succ_self _) _) (Nat.le_succ _)) (k3.setCell (p := ⟨w.heap.size, 0, none⟩) (Nat.le_refl _) _)

end Go.Proofs.Ytcgenmkgdhaejaa
