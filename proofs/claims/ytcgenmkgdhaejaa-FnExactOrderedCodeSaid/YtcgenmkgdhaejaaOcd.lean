/- The best tree with letters in order: the letters made deeper, the program's closure. -/
import Derived.Test.YtcgenmkgdhaejaaOcP
import Derived.Test.YtcgenmkgdhaejaaAsc
import Derived.BigQuiet
import Derived.StillTailTactics
namespace Go.Proofs.Ytcgenmkgdhaejaa
set_option linter.unusedSimpArgs false
set_option linter.unusedVariables false
open Go.RowKit
theorem run_store_funcv (P : Program) (w : World) (a : Addr) (m : Mode) (fn : Fn) (first captured : Array Value) : (store a (.func fn first captured) m).run P w = stored P w a (.func fn first captured) m := run_store P w a _ m rfl
attribute [go_sem] run_store_funcv

/-- Block b reads as the table. -/
def TabR (W : World) (b : Nat) (T : Tb) : Prop := ∀ i k, i < 16 → k < 16 → W.cell? ⟨b, i * 32 + k * 2, none⟩ = some (.int .i64 (T i k).1) ∧ W.cell? ⟨b, i * 32 + k * 2 + 1, none⟩ = some (.int .i64 ((T i k).2 : Int))
theorem TabR.grown {W W' : World} {b g : Nat} {T : Tb} (h : TabR W b T) (hg : W.grownBy W' (some g)) (hne : b ≠ g) : TabR W' b T := fun i k hi hk =>
  ⟨cell_grown1 hg (h i k hi hk).1 hne, cell_grown1 hg (h i k hi hk).2 hne⟩
where cell_grown1 {W W' : World} {g : Nat} {a : Addr} {x : Value} (hg : W.grownBy W' (some g)) (h : W.cell? a = some x) (hne : a.block ≠ g) : W'.cell? a = some x :=
  (World.cell?_of_block (hg.block a.block (World.block_lt_of_cell? W a h) (fun e => hne (by cases e; rfl)))).trans h
theorem TabR.below {W W' : World} {b : Nat} {T : Tb} (h : TabR W b T) (hb : Below W.heap.size W W') : TabR W' b T := fun i k hi hk =>
  ⟨cell_step (h i k hi hk).1 hb, cell_step (h i k hi hk).2 hb⟩
theorem incR_succ (l : List Int) (i m : Nat) : incR l i (m + 1) = (incR l i m).set (i + m) ((incR l i m)[i + m]?.getD 0 + 1) := rfl
/-- What the closure works on. -/
def DS (W : World) (B bl bf bt gl cl n : Nat) (T : Tb) (l : List Int) : Prop :=
  W.cell? ⟨bl, 0, none⟩ = some (.slice (some ⟨gl, 0, none⟩) n cl) ∧ W.cell? ⟨bf, 0, none⟩ = some (.func (.func 37) #[] #[.pointer (some ⟨bl, 0, none⟩), .pointer (some ⟨bf, 0, none⟩), .pointer (some ⟨bt, 0, none⟩)]) ∧
    TabR W bt T ∧ W.ownsRow B 2 1 (.slice (some ⟨gl, 0, none⟩) n cl) n (l.map (Value.int .i64))
theorem DS.grown {W W' : World} {B bl bf bt gl cl n : Nat} {T : Tb} {l l' : List Int} (h : DS W B bl bf bt gl cl n T l) (hg : W.grownBy W' (some gl)) (h1 : bl ≠ gl) (h2 : bf ≠ gl) (h3 : bt ≠ gl) (ho : W'.ownsRow B 2 1 (.slice (some ⟨gl, 0, none⟩) n cl) n (l'.map (Value.int .i64))) : DS W' B bl bf bt gl cl n T l' :=
  ⟨TabR.grown.cell_grown1 hg h.1 h1, TabR.grown.cell_grown1 hg h.2.1 h2, h.2.2.1.grown hg h3, ho⟩
theorem DS.below {W W' : World} {B bl bf bt gl cl n : Nat} {T : Tb} {l : List Int} (h : DS W B bl bf bt gl cl n T l) (hb : Below W.heap.size W W') : DS W' B bl bf bt gl cl n T l :=
  ⟨cell_step h.1 hb, cell_step h.2.1 hb, h.2.2.1.below hb, ownsRow_below h.2.2.2 hb⟩

set_option maxRecDepth 100000 in
set_option maxHeartbeats 2000000 in
theorem deepen_any (B bl bf bt gl cl n : Nat) (T : Tb) (hn : n ≤ 16) (h1 : bl ≠ gl) (h2 : bf ≠ gl) (h3 : bt ≠ gl) (hT : ∀ a b, a < b → b < n → a ≤ (T a b).2 ∧ (T a b).2 < b) :
    ∀ (f i k : Nat) (w : World) (l : List Int) (A : Int), k - i < f → i ≤ k → k < n → l.length = n → DS w B bl bf bt gl cl n T l → 0 ≤ A → A + 2 ^ f ≤ 9223372036854775807 → (∀ x ∈ l, 0 ≤ x ∧ x ≤ A) →
      Calls Try.prog 37 #[.int .i64 i, .int .i64 k, .pointer (some ⟨bl, 0, none⟩), .pointer (some ⟨bf, 0, none⟩), .pointer (some ⟨bt, 0, none⟩)] w fun e w' => e = .returned (.tuple #[]) ∧ DS w' B bl bf bt gl cl n T (deep T f i k l) ∧ w.grownBy w' (some gl) := by
  intro f
  induction f with
  | zero => intro i k w l A h; omega
  | succ f ih =>
    intro i k w l A hf hik hkn hln hD hA hA2 hl
    have hp : (1 : Int) ≤ 2 ^ f := by
      have := Nat.one_le_two_pow (n := f)
      have e : ((2 : Int) ^ f) = ((2 ^ f : Nat) : Int) := by simp
      rw [e]; omega
    rw [Int.pow_succ] at hA2
    by_cases he : i = k
    · have HR : Hid (deep T (f + 1) i k l = l) := by show _ = _; unfold deep; rw [if_pos he]
      subst he
      have HD := Lib.hid hD
      go_enter Try.func37, Try.ntmps37
      go_wp2
      (try simp only [Exit.inBlock, Exit.then])
      refine bodyPost_ret (results_none rfl _ _ _) rfl ?_
      exact ⟨rfl, by rw [HR.out]; exact HD.out, World.grownBy.refl _ _⟩
    · have HR : Hid (deep T (f + 1) i k l = deep T f ((T i k).2 + 1) k (deep T f i (T i k).2 (incR l i (k + 1 - i)))) := by show _ = _; rw [deep, if_neg he]
      obtain ⟨t1, t2⟩ := hT i k (by omega) hkn
      have hlR := incR_length l i (k + 1 - i)
      have hbR := incR_bd hA hl i (k + 1 - i) (by omega)
      have hTT : ∀ a b, a < b → b < (incR l i (k + 1 - i)).length → a ≤ (T a b).2 ∧ (T a b).2 < b := fun a b h1 h2 => hT a b h1 (by omega)
      have hbD := deep_bd T f i (T i k).2 (incR l i (k + 1 - i)) (A + 1) (by omega) (by omega) hbR hTT t1
      have HC1 := Lib.hid (fun W (hW : DS W B bl bf bt gl cl n T (incR l i (k + 1 - i))) => ih i (T i k).2 W (incR l i (k + 1 - i)) (A + 1) (by omega) t1 (by omega) (by omega) hW (by omega) (by omega) hbR)
      have HC2 := Lib.hid (fun W (hW : DS W B bl bf bt gl cl n T (deep T f i (T i k).2 (incR l i (k + 1 - i)))) => ih ((T i k).2 + 1) k W (deep T f i (T i k).2 (incR l i (k + 1 - i))) (A + 2 ^ f) (by omega) (by omega) (by omega) (by rw [deep_length]; omega) hW (by omega) (by omega) (fun x hx => by have := hbD x hx; omega))
      have HIB : Hid (∀ m, i + m ≤ n → ∀ x ∈ incR l i m, 0 ≤ x ∧ x ≤ A + 1) := Lib.hid (fun m hm => incR_bd hA hl i m (by omega))
      have HIL : Hid (∀ m, (incR l i m).length = n) := Lib.hid (fun m => by rw [incR_length, hln])
      have hki : ¬ (i : Int) = (k : Int) := by omega
      clear hlR hbR hTT hbD ih hl hT
      generalize hR1 : deep T f i (T i k).2 (incR l i (k + 1 - i)) = R1 at *
      clear hR1
      go_enter Try.func37, Try.ntmps37
      go_wp2
      go_loopw [7] (fun q wr => ∃ m : Nat, q = .int .i64 ((i + m : Nat) : Int) ∧ m ≤ k + 1 - i ∧ DS wr B bl bf bt gl cl n T (incR l i m) ∧ w.grownBy wr (some gl)) (fun q _ => k + 1 - (intOf q).toNat)
      case atStart => exact ⟨0, rfl, Nat.zero_le _, hD, World.grownBy.refl _ _⟩
      case round =>
        clear hD
        obtain ⟨m, rfl, hm, hD, hg⟩ := hrel
        have HD := Lib.hid hD
        obtain ⟨c1, c2, c3, c4⟩ := hD
        by_cases hmk : i + m ≤ k
        · obtain ⟨j, hj⟩ : ∃ j, j = i + m := ⟨_, rfl⟩
          have HJ := Lib.hid hj
          rw [← hj] at hmk ⊢
          have hcl := c4.cellAt j (by omega)
          have hfz := c4.frozenAt j
          have hst := c4.stored j (.int .i64 ((incR l i m)[j]?.getD 0 + 1))
          have hz : (incR l i m)[j]? = some ((incR l i m)[j]?.getD 0) := by
            rw [List.getElem?_eq_getElem (by rw [HIL.out]; omega)]; rfl
          rw [List.getElem?_map, hz] at hcl
          replace hcl : wr.cell? ⟨gl, j, none⟩ = some (.int .i64 ((incR l i m)[j]?.getD 0)) := hcl
          have hzb := HIB.out m (by omega) _ (List.mem_of_getElem? hz)
          have HST := Lib.hid hst
          have HSUC : Hid (incR l i (m + 1) = (incR l i m).set j ((incR l i m)[j]?.getD 0 + 1)) := by show _ = _; rw [HJ.out]; rfl
          clear hst hz c4 hj
          generalize (incR l i m)[j]?.getD 0 = z at *
          have e1 : IntKind.i64.wrap (z + 1) = z + 1 := IntWalk.i64_in _ (by omega)
          go_wp2
          go_roundw
          case rel =>
            refine ⟨m + 1, by have := HJ.out; go_num, by have := HJ.out; omega, HD.out.grown HST.out.2 h1 h2 h3 (by rw [HSUC.out, List.map_set]; exact HST.out.1), ?_⟩
            exact hg.trans HST.out.2
          case measure => simp [intOf]; omega
        · obtain rfl : m = k + 1 - i := by omega
          obtain ⟨ct1, ct2⟩ := c3 i k (by omega) (by omega)
          have HCT : Hid (∀ W, TabR W bt T → W.cell? ⟨bt, i * 32 + k * 2 + 1, none⟩ = some (.int .i64 ((T i k).2 : Int))) := Lib.hid (fun W h => (h i k (by omega) (by omega)).2)
          have D5 : DS wr.drew B bl bf bt gl cl n T (incR l i (k + 1 - i)) := HD.out.below (by go_grown)
          have HD5 := Lib.hid D5
          obtain ⟨d1, d2, d3, d4⟩ := D5
          have d5 := HCT.out _ d3
          have hg5 : w.grownBy wr.drew (some gl) := ⟨hg.os, hg.tape, hg.output, hg.size, hg.block⟩
          have g1 : (i : Int) < 16 := by omega
          have g2 : (k : Int) < 16 := by omega
          have g3 : (0 : Int) ≤ (i : Int) := by omega
          have g4 : (0 : Int) ≤ (k : Int) := by omega
          clear c1 c2 c3 c4 ct1 ct2 d3 d4 hg HD
          go_wp2
          refine wp_region_still_tail 8 (by kernel_rfl) (by kernel_rfl) ?_
          change wpStill _ _ (World.drew wr) _ _ _
          simp only [List.take_succ_cons, List.take_zero, List.drop_succ_cons, List.drop_zero]
          repeat still_step
          refine wpStill_nil ?_
          go_wp2_with (go_at_call 37; refine (HC1.out _ HD5.out).mono ?_; rintro e w6 ⟨rfl, hD6, hg6⟩)
          have hgA := hg5.trans hg6
          have D7 : DS w6.drew B bl bf bt gl cl n T R1 := hD6.below (by go_grown)
          have HD7 := Lib.hid D7
          obtain ⟨f1, f2, f3, f4⟩ := D7
          have f5 := HCT.out _ f3
          have hg7 : w.grownBy w6.drew (some gl) := ⟨hgA.os, hgA.tape, hgA.output, hgA.size, hgA.block⟩
          have g5 : wrap64 (((T i k).2 : Int) + 1) = (((T i k).2 + 1 : Nat) : Int) := by rw [Int.natCast_add]; exact IntWalk.wrap64_in _ (by omega)
          clear d1 d2 d5 hD6 hg6 f3 f4 hgA hg5
          go_wp2
          refine wp_region_still_tail 9 (by kernel_rfl) (by kernel_rfl) ?_
          change wpStill _ _ (World.drew w6) _ _ _
          simp only [List.take_succ_cons, List.take_zero, List.drop_succ_cons, List.drop_zero]
          repeat still_step
          refine wpStill_nil ?_
          go_wp2_with fail
          rw [g5]
          refine (HC2.out _ HD7.out).mono ?_
          rintro e w8 ⟨rfl, hD8, hg8⟩
          go_wp2
          go_end0
          exact ⟨rfl, by rw [HR.out]; exact hD8, hg7.trans hg8⟩

end Go.Proofs.Ytcgenmkgdhaejaa
