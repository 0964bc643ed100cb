/- The best tree with letters in order: the reference's letters made deeper. -/
import Derived.Test.YtcgenmkgdhaejaaOcw
import Derived.Test.YtcgenmkgdhaejaaRd
namespace Go.Proofs.Ytcgenmkgdhaejaa
set_option linter.unusedSimpArgs false
set_option linter.unusedVariables false
open Go.RowKit
/-- The table in slices of slices. -/
def TabS (W : World) (gC gP : Nat) (rc rp : Nat → Nat) (n : Nat) (T : Tb) : Prop := ∀ i, i < n →
  W.cell? ⟨gC, i, none⟩ = some (.slice (some ⟨rc i, 0, none⟩) n n) ∧ W.cell? ⟨gP, i, none⟩ = some (.slice (some ⟨rp i, 0, none⟩) n n) ∧
    ∀ k, k < n → W.cell? ⟨rc i, k, none⟩ = some (.int .i64 (T i k).1) ∧ W.cell? ⟨rp i, k, none⟩ = some (.int .i64 ((T i k).2 : Int)) ∧ W.frozen? ⟨rc i, k, none⟩ = false ∧ W.frozen? ⟨rp i, k, none⟩ = false
/-- The rows are other than one another. -/
def Apt (gC gP : Nat) (rc rp : Nat → Nat) (n : Nat) : Prop := (∀ i j, i < n → j < n → rc i = rc j → i = j) ∧ (∀ i j, i < n → j < n → rp i = rp j → i = j) ∧ (∀ i j, i < n → j < n → rc i ≠ rp j) ∧ ∀ i, i < n → rc i ≠ gC ∧ rc i ≠ gP ∧ rp i ≠ gC ∧ rp i ≠ gP
theorem TabS.below {W W' : World} {gC gP : Nat} {rc rp : Nat → Nat} {n : Nat} {T : Tb} (h : TabS W gC gP rc rp n T) (hb : Below W.heap.size W W') : TabS W' gC gP rc rp n T := fun i hi => by
  obtain ⟨h1, h2, h3⟩ := h i hi
  refine ⟨cell_step h1 hb, cell_step h2 hb, fun k hk => ?_⟩
  obtain ⟨a, b, c, d⟩ := h3 k hk
  exact ⟨cell_step a hb, cell_step b hb, (hb.frozen (p := ⟨rc i, k, none⟩) (show rc i < _ from World.block_lt_of_cell? W _ a)).trans c, (hb.frozen (p := ⟨rp i, k, none⟩) (show rp i < _ from World.block_lt_of_cell? W _ b)).trans d⟩
theorem TabS.grown {W W' : World} {gC gP g : Nat} {rc rp : Nat → Nat} {n : Nat} {T : Tb} (h : TabS W gC gP rc rp n T) (hg : W.grownBy W' (some g)) (h1 : gC ≠ g) (h2 : gP ≠ g) (h3 : ∀ i, i < n → rc i ≠ g ∧ rp i ≠ g) : TabS W' gC gP rc rp n T := fun i hi => by
  obtain ⟨c1, c2, c3⟩ := h i hi
  obtain ⟨n1, n2⟩ := h3 i hi
  refine ⟨TabR.grown.cell_grown1 hg c1 h1, TabR.grown.cell_grown1 hg c2 h2, fun k hk => ?_⟩
  obtain ⟨a, b, c, d⟩ := c3 k hk
  exact ⟨TabR.grown.cell_grown1 hg a n1, TabR.grown.cell_grown1 hg b n2, (World.frozen?_of_block (hg.block (rc i) (World.block_lt_of_cell? W ⟨rc i, k, none⟩ a) (fun e => n1 (Option.some.inj e)))).trans c, (World.frozen?_of_block (hg.block (rp i) (World.block_lt_of_cell? W ⟨rp i, k, none⟩ b) (fun e => n2 (Option.some.inj e)))).trans d⟩
theorem TabS.setP {W : World} {gC gP : Nat} {rc rp : Nat → Nat} {n : Nat} {T : Tb} (h : TabS W gC gP rc rp n T) (ha : Apt gC gP rc rp n) {i k : Nat} (hi : i < n) (hk : k < n) (y : Nat) : TabS (W.setCell ⟨rp i, k, none⟩ (.int .i64 (y : Int))) gC gP rc rp n (tupd T i k ((T i k).1, y)) := fun p hp => by
  obtain ⟨a1, a2, a3, a4⟩ := ha
  obtain ⟨c1, c2, c3⟩ := h p hp
  obtain ⟨n1, n2, n3, n4⟩ := a4 i hi
  refine ⟨(OS.cell.cell_other (fun e => n3 e.symm)).trans c1, (OS.cell.cell_other (fun e => n4 e.symm)).trans c2, fun q hq => ?_⟩
  obtain ⟨d1, d2, d3, d4⟩ := c3 q hq
  refine ⟨(OS.cell.cell_other (fun e => a3 p i hp hi e)).trans ?_, ?_, (World.frozen?_setCell _ _ _ _).trans d3, (World.frozen?_setCell _ _ _ _).trans d4⟩
  · rw [d1]
    unfold tupd
    split
    · rename_i e; rw [e.1, e.2]
    · rfl
  · unfold tupd
    by_cases e : p = i ∧ q = k
    · obtain ⟨rfl, rfl⟩ := e
      rw [if_pos ⟨rfl, rfl⟩]
      exact World.cell?_setCell_same W _ _ d2
    · rw [if_neg e]
      refine (World.cell?_setCell_other W _ _ _ (fun he => e ?_)).trans d2
      have e1 : rp i = rp p := congrArg Addr.block he
      have e2 : k = q := congrArg Addr.off he
      exact ⟨(a2 i p hi hp e1).symm, e2.symm⟩
theorem TabS.setC {W : World} {gC gP : Nat} {rc rp : Nat → Nat} {n : Nat} {T : Tb} (h : TabS W gC gP rc rp n T) (ha : Apt gC gP rc rp n) {i k : Nat} (hi : i < n) (hk : k < n) (x : Int) : TabS (W.setCell ⟨rc i, k, none⟩ (.int .i64 x)) gC gP rc rp n (tupd T i k (x, (T i k).2)) := fun p hp => by
  obtain ⟨a1, a2, a3, a4⟩ := ha
  obtain ⟨c1, c2, c3⟩ := h p hp
  obtain ⟨n1, n2, n3, n4⟩ := a4 i hi
  refine ⟨(OS.cell.cell_other (fun e => n1 e.symm)).trans c1, (OS.cell.cell_other (fun e => n2 e.symm)).trans c2, fun q hq => ?_⟩
  obtain ⟨d1, d2, d3, d4⟩ := c3 q hq
  refine ⟨?_, (OS.cell.cell_other (fun e => a3 i p hi hp e.symm)).trans ?_, (World.frozen?_setCell _ _ _ _).trans d3, (World.frozen?_setCell _ _ _ _).trans d4⟩
  · unfold tupd
    by_cases e : p = i ∧ q = k
    · obtain ⟨rfl, rfl⟩ := e
      rw [if_pos ⟨rfl, rfl⟩]
      exact World.cell?_setCell_same W _ _ d1
    · rw [if_neg e]
      refine (World.cell?_setCell_other W _ _ _ (fun he => e ?_)).trans d1
      have e1 : rc i = rc p := congrArg Addr.block he
      have e2 : k = q := congrArg Addr.off he
      exact ⟨(a1 i p hi hp e1).symm, e2.symm⟩
  · rw [d2]
    unfold tupd
    split
    · rename_i e; rw [e.1, e.2]
    · rfl
def SS (W : World) (B gC gP gl cP n : Nat) (rc rp : Nat → Nat) (T : Tb) (l : List Int) : Prop :=
  TabS W gC gP rc rp n T ∧ W.ownsRow B 2 1 (.slice (some ⟨gl, 0, none⟩) n n) n (l.map (Value.int .i64))
theorem SS.grown {W W' : World} {B gC gP gl cP n : Nat} {rc rp : Nat → Nat} {T : Tb} {l l' : List Int} (h : SS W B gC gP gl cP n rc rp T l) (hg : W.grownBy W' (some gl)) (h1 : gC ≠ gl) (h2 : gP ≠ gl) (h3 : ∀ i, i < n → rc i ≠ gl ∧ rp i ≠ gl) (ho : W'.ownsRow B 2 1 (.slice (some ⟨gl, 0, none⟩) n n) n (l'.map (Value.int .i64))) : SS W' B gC gP gl cP n rc rp T l' :=
  ⟨h.1.grown hg h1 h2 h3, ho⟩

set_option maxRecDepth 100000 in
set_option maxHeartbeats 2000000 in
theorem l04Deepen_any (B gC gP gl cP n : Nat) (rc rp : Nat → Nat) (T : Tb) (hn : n ≤ 16) (hcP : n ≤ cP) (h1 : gC ≠ gl) (h2 : gP ≠ gl) (h3 : ∀ i, i < n → rc i ≠ gl ∧ rp i ≠ gl) (hT : ∀ a b, a < b → b < n → a ≤ (T a b).2 ∧ (T a b).2 < b) :
    ∀ (f i k : Nat) (w : World) (l : List Int) (A : Int), k - i < f → i ≤ k → k < n → l.length = n → SS w B gC gP gl cP n rc rp T l → 0 ≤ A → A + 2 ^ f ≤ 9223372036854775807 → (∀ x ∈ l, 0 ≤ x ∧ x ≤ A) →
      Calls Try.prog 35 #[.slice (some ⟨gl, 0, none⟩) n n, .slice (some ⟨gP, 0, none⟩) n cP, .int .i64 i, .int .i64 k] w fun e w' => e = .returned (.tuple #[]) ∧ SS w' B gC gP gl cP n rc rp T (deep T f i k l) ∧ w.grownBy w' (some gl) := by
  intro f
  induction f with
  | zero => intro i k w l A h; omega
  | succ f ih =>
    intro i k w l A hf hik hkn hln hD hA hA2 hl
    have hp : (1 : Int) ≤ 2 ^ f := by
      have := Nat.one_le_two_pow (n := f)
      have e : ((2 : Int) ^ f) = ((2 ^ f : Nat) : Int) := by simp
      rw [e]; omega
    rw [Int.pow_succ] at hA2
    by_cases he : i = k
    · have HR : Hid (deep T (f + 1) i k l = l) := by show _ = _; unfold deep; rw [if_pos he]
      subst he
      have HD := Lib.hid hD
      go_enter Try.func35, Try.ntmps35
      go_wp2
      (try simp only [Exit.inBlock, Exit.then])
      refine bodyPost_ret (results_none rfl _ _ _) rfl ?_
      exact ⟨rfl, by rw [HR.out]; exact HD.out, World.grownBy.refl _ _⟩
    · have HR : Hid (deep T (f + 1) i k l = deep T f ((T i k).2 + 1) k (deep T f i (T i k).2 (incR l i (k + 1 - i)))) := by show _ = _; rw [deep, if_neg he]
      obtain ⟨t1, t2⟩ := hT i k (by omega) hkn
      have hlR := incR_length l i (k + 1 - i)
      have hbR := incR_bd hA hl i (k + 1 - i) (by omega)
      have hTT : ∀ a b, a < b → b < (incR l i (k + 1 - i)).length → a ≤ (T a b).2 ∧ (T a b).2 < b := fun a b h1 h2 => hT a b h1 (by omega)
      have hbD := deep_bd T f i (T i k).2 (incR l i (k + 1 - i)) (A + 1) (by omega) (by omega) hbR hTT t1
      have HC1 := Lib.hid (fun W (hW : SS W B gC gP gl cP n rc rp T (incR l i (k + 1 - i))) => ih i (T i k).2 W (incR l i (k + 1 - i)) (A + 1) (by omega) t1 (by omega) (by omega) hW (by omega) (by omega) hbR)
      have HC2 := Lib.hid (fun W (hW : SS W B gC gP gl cP n rc rp T (deep T f i (T i k).2 (incR l i (k + 1 - i)))) => ih ((T i k).2 + 1) k W (deep T f i (T i k).2 (incR l i (k + 1 - i))) (A + 2 ^ f) (by omega) (by omega) (by omega) (by rw [deep_length]; omega) hW (by omega) (by omega) (fun x hx => by have := hbD x hx; omega))
      have HIB : Hid (∀ m, i + m ≤ n → ∀ x ∈ incR l i m, 0 ≤ x ∧ x ≤ A + 1) := Lib.hid (fun m hm => incR_bd hA hl i m (by omega))
      have HIL : Hid (∀ m, (incR l i m).length = n) := Lib.hid (fun m => by rw [incR_length, hln])
      have hki : ¬ (i : Int) = (k : Int) := by omega
      clear hlR hbR hTT hbD ih hl hT
      generalize hR1 : deep T f i (T i k).2 (incR l i (k + 1 - i)) = R1 at *
      clear hR1
      go_enter Try.func35, Try.ntmps35
      go_wp2
      go_loopw [8] (fun q wr => ∃ m : Nat, q = .int .i64 ((i + m : Nat) : Int) ∧ m ≤ k + 1 - i ∧ SS wr B gC gP gl cP n rc rp T (incR l i m) ∧ w.grownBy wr (some gl)) (fun q _ => k + 1 - (intOf q).toNat)
      case atStart => exact ⟨0, rfl, Nat.zero_le _, hD, World.grownBy.refl _ _⟩
      case round =>
        clear hD
        obtain ⟨m, rfl, hm, hD, hg⟩ := hrel
        have HD := Lib.hid hD
        obtain ⟨c3, c4⟩ := hD
        by_cases hmk : i + m ≤ k
        · obtain ⟨j, hj⟩ : ∃ j, j = i + m := ⟨_, rfl⟩
          have HJ := Lib.hid hj
          rw [← hj] at hmk ⊢
          have hcl := c4.cellAt j (by omega)
          have hfz := c4.frozenAt j
          have hst := c4.stored j (.int .i64 ((incR l i m)[j]?.getD 0 + 1))
          have hz : (incR l i m)[j]? = some ((incR l i m)[j]?.getD 0) := by
            rw [List.getElem?_eq_getElem (by rw [HIL.out]; omega)]; rfl
          rw [List.getElem?_map, hz] at hcl
          replace hcl : wr.cell? ⟨gl, j, none⟩ = some (.int .i64 ((incR l i m)[j]?.getD 0)) := hcl
          have hzb := HIB.out m (by omega) _ (List.mem_of_getElem? hz)
          have HST := Lib.hid hst
          have HSUC : Hid (incR l i (m + 1) = (incR l i m).set j ((incR l i m)[j]?.getD 0 + 1)) := by show _ = _; rw [HJ.out]; rfl
          clear hst hz c4 hj
          generalize (incR l i m)[j]?.getD 0 = z at *
          have e1 : IntKind.i64.wrap (z + 1) = z + 1 := IntWalk.i64_in _ (by omega)
          go_wp2
          go_roundw
          case rel =>
            refine ⟨m + 1, by have := HJ.out; go_num, by have := HJ.out; omega, HD.out.grown HST.out.2 h1 h2 h3 (by rw [HSUC.out, List.map_set]; exact HST.out.1), ?_⟩
            exact hg.trans HST.out.2
          case measure => simp [intOf]; omega
        · obtain rfl : m = k + 1 - i := by omega
          have HCT : Hid (∀ W, TabS W gC gP rc rp n T → W.cell? ⟨gP, i, none⟩ = some (.slice (some ⟨rp i, 0, none⟩) n n) ∧ W.cell? ⟨rp i, k, none⟩ = some (.int .i64 ((T i k).2 : Int))) := Lib.hid (fun W h => ⟨(h i (by omega)).2.1, ((h i (by omega)).2.2 k hkn).2.1⟩)
          obtain ⟨d1, d2⟩ := HCT.out _ c3
          have g5 : wrap64 (((T i k).2 : Int) + 1) = (((T i k).2 + 1 : Nat) : Int) := by rw [Int.natCast_add]; exact IntWalk.wrap64_in _ (by omega)
          clear c3 c4
          have hi1 : (i : Int) < (n : Int) := by omega
          have hk1 : (k : Int) < (n : Int) := by omega
          go_wp2_with fail
          refine (HC1.out _ HD.out).mono ?_
          rintro e w6 ⟨rfl, hD6, hg6⟩
          have HD6 := Lib.hid hD6
          obtain ⟨f1, f2⟩ := HCT.out _ hD6.1
          clear d1 d2 hD6
          go_wp2_with fail
          rw [g5]
          refine (HC2.out _ HD6.out).mono ?_
          rintro e w8 ⟨rfl, hD8, hg8⟩
          go_wp2
          go_end0
          exact ⟨rfl, by rw [HR.out]; exact hD8, (hg.trans hg6).trans hg8⟩

end Go.Proofs.Ytcgenmkgdhaejaa
