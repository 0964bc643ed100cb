/- slices.Concat of two lists of single words, and slices.ContainsFunc over them. -/
import Derived.Test.YtmocfnpbofeiiaaMExc
import Derived.Lib.AppendZerosOnto
import Derived.Lib.SliceRun
namespace Go.Proofs.Ytmocfnpbofeiiaa
set_option linter.unusedSimpArgs false
set_option linter.unusedVariables false
open Go.RowKit

/-- A call hands back a list at and above block B, in cells of its own. -/
def RetGr (B : Nat) (T : TypeId) (e : Ending) (w w' : World) : Prop := ∃ c, e = .returned (.slice (some ⟨B, 0, none⟩) 0 c) ∧ w'.ownsRow B T 1 (.slice (some ⟨B, 0, none⟩) 0 c) 0 [] ∧ Below B w w'

set_option maxRecDepth 10000 in
set_option maxHeartbeats 2000000 in
theorem growF_any (n : Nat) (w : World) (h1 : 1 ≤ n) (h2 : n ≤ 1000) :
    Calls Try.prog 135 #[.slice none 0 0, .int .i64 (n : Int)] w fun e w' => RetGr w.heap.size 32 e w w' := by
  obtain ⟨i0, hi0, hz0, hz1, hz2⟩ := info_parts info_Float32S
  have hold : (Builtin.firstCells i0.size 0 (.slice none 0 0)).run Try.prog w.drew = .ok ([] : List Value).toArray w.drew := run_firstCells_none w.drew i0.size 0 0 0
  have hrz : ∀ ty, (Builtin.append_ #[25, 3] ty #[.slice none 0 0, .int .i64 (n : Int)]).run Try.prog w =
      .ok (.slice (some ⟨w.heap.size, 0, none⟩) n (grownCap w n 0 32)) (w.drew.alloc (.cells (([] : List Value).toArray ++ Builtin.zeroCells (Value.float .f32 0).cells n ++ Builtin.zeroCells (Value.float .f32 0).cells (grownCap w n 0 32 - n)) 32)) := fun ty => by
    have h := Lib.run_append_grow_zeros w 25 3 ty 32 i0 (.float .f32 0) .i64 .i64 Try.underlying25 Try.underlying3 hi0 hz0 none 0 0 [] hold n (by omega) (by omega) (by omega) (by omega) (by rw [hz2]; omega)
      (by have := growslice_fits (need := 0 + n) (old := 0) (bytes := i0.bytes) (by omega) (by rw [hz2]; omega)
          exact this)
    rw [Nat.zero_add] at h
    exact h
  have hGn : n ≤ grownCap w n 0 32 := grownCap_ge w _ _ _
  have hGm : grownCap w n 0 32 ≤ maxLen := grownCap_le_maxLen w n 0 32 (by unfold maxLen; omega)
  obtain ⟨G, hG⟩ : ∃ G, G = grownCap w n 0 32 := ⟨_, rfl⟩
  rw [← hG] at hrz hGn hGm
  have hG63 : G ≤ 9223372036854775807 := by unfold maxLen at hGm; omega
  clear hold hG
  obtain ⟨cur, hcur⟩ : ∃ cur, cur = (([] : List Value).toArray ++ Builtin.zeroCells (Value.float .f32 0).cells n ++ Builtin.zeroCells (Value.float .f32 0).cells (G - n)) := ⟨_, rfl⟩
  have hcs : cur.size = G := by rw [hcur]; simp [Builtin.zeroCells, Value.cells]; omega
  rw [← hcur] at hrz
  clear hcur
  have fin : RetGr w.heap.size 32 (.returned (.slice (some ⟨w.heap.size, 0, none⟩) 0 G)) w (w.drew.alloc (.cells cur 32)) := by
    refine ⟨G, rfl, ⟨rfl, .inr ⟨w.heap.size, G, cur, rfl, Nat.le_refl _, ?_, Nat.zero_le _, hGm, by rw [hcs, Nat.mul_one], by simp⟩⟩, ?_⟩
    · show (w.heap.push _)[w.heap.size]? = _
      simp
    · exact (Below.drew (Below.refl _ _)).alloc (Nat.le_refl _) _
  have FIN := Lib.hid fin
  clear fin
  go_enter Try.func135, Try.ntmps135
  go_wp2_with (at_builtin; refine Lib.wpList_append_run _ rfl _ _ _ _ rfl _ _ rfl rfl _ _ (hrz _) ?_)
  all_goals
    go_ret
    exact FIN.out
theorem add_at (b o j : Nat) : (⟨b, o, none⟩ : Addr).add j = ⟨b, o + j, none⟩ := by
  unfold Addr.add
  split
  · rename_i h; rw [h]; rfl
  · rfl
theorem flt_oneCell (xs : List Nat) : ∀ u ∈ xs.map (Value.float .f32), u.oneCell' = true := by
  intro u hu
  obtain ⟨x, -, rfl⟩ := List.mem_map.1 hu
  rfl

set_option maxHeartbeats 4000000 in
theorem concatF_any (b b1 o1 c1 b2 o2 c2 : Nat) (xs ys : List Nat) (w : World) (h0 : w.cell? ⟨b, 0, none⟩ = some (.slice (some ⟨b1, o1, none⟩) xs.length c1)) (h1 : w.cell? ⟨b, 1, none⟩ = some (.slice (some ⟨b2, o2, none⟩) ys.length c2))
    (hv : ∀ j u, (xs.map (Value.float .f32))[j]? = some u → w.cell? ⟨b1, o1 + j, none⟩ = some u) (hu : ∀ j u, (ys.map (Value.float .f32))[j]? = some u → w.cell? ⟨b2, o2 + j, none⟩ = some u) (n1 : 1 ≤ xs.length) (n2 : xs.length ≤ 100) (m2 : ys.length ≤ 100) :
    Calls Try.prog 110 #[.slice (some ⟨b, 0, none⟩) 2 2] w (RetSl w 32 (xs ++ ys).length ((xs ++ ys).map (Value.float .f32)) (fun v => v)) := by
  obtain ⟨i0, hi0, hz0, hz1, hz2⟩ := info_parts info_Float32S
  have hl0 := World.block_lt_of_cell? w _ h0
  have HV := Lib.hid hv
  have HU := Lib.hid hu
  have H0 := Lib.hid h0
  have H1 := Lib.hid h1
  obtain ⟨n, hn⟩ : ∃ n, n = xs.length := ⟨_, rfl⟩
  obtain ⟨m, hm⟩ : ∃ m, m = ys.length := ⟨_, rfl⟩
  rw [← hn] at h0 n1 n2 H0
  rw [← hm] at h1 m2 H1
  have HN := Lib.hid hn
  have HM := Lib.hid hm
  obtain ⟨N, hNN⟩ : ∃ N, N = n + m := ⟨_, rfl⟩
  have HNN := Lib.hid hNN
  clear hv hu hn hm hNN
  go_enter Try.func110, Try.ntmps110
  go_wp2
  go_loop [3, 11] (fun s i => (i = .int .i64 0 ∧ s = .int .i64 0) ∨ (i = .int .i64 1 ∧ s = .int .i64 (n : Int)) ∨ (i = .int .i64 2 ∧ s = .int .i64 (N : Int))) (fun _ i => (2 - intOf i).toNat)
  case atStart => exact .inl ⟨rfl, rfl⟩
  case round =>
    rcases hrel with ⟨rfl, rfl⟩ | ⟨rfl, rfl⟩ | ⟨rfl, rfl⟩
    · have k1 : ¬ (n : Int) < 0 := by omega
      go_wp2
      go_round
      case rel => exact .inr (.inl ⟨by go_num, by go_num⟩)
      case measure => simp [intOf]
    · have k1 : ¬ (n : Int) + (m : Int) < 0 := by omega
      go_wp2
      go_round
      case rel => exact .inr (.inr ⟨by go_num, by rw [HNN.out]; go_num⟩)
      case measure => simp [intOf]
    · clear h0 h1
      go_wp2_with (go_at_call 135; refine (growF_any N _ (by have := HNN.out; omega) (by have := HNN.out; omega)).mono ?_; rintro e w1 ⟨C, rfl, hown0, hb0⟩)
      go_loopw [6, 27] (fun q i wr => ∃ (k : Nat) (zs : List Nat) (a : Option Addr) (c : Nat), i = .int .i64 (k : Int) ∧ ((k = 0 ∧ zs = []) ∨ (k = 1 ∧ xs = zs) ∨ (k = 2 ∧ zs = xs ++ ys)) ∧ q = .slice a zs.length c ∧ wr.ownsRow w.heap.size 32 1 (.slice a zs.length c) zs.length (zs.map (Value.float .f32)) ∧ Below w.heap.size w wr) (fun _ i _ => (2 - intOf i).toNat)
      case atStart => exact ⟨0, [], _, _, rfl, .inl ⟨rfl, rfl⟩, rfl, hown0, hb0⟩
      case round =>
        clear hown0 hb0
        obtain ⟨k, zs, a, c, rfl, hk, rfl, hown, hb⟩ := hrel
        have g0 := cell_step H0.out hb
        have g1 := cell_step H1.out hb
        rcases hk with ⟨rfl, rfl⟩ | ⟨rfl, rfl⟩ | ⟨rfl, rfl⟩
        · have gv : ∀ j u, (xs.map (Value.float .f32))[j]? = some u → wr.cell? ((⟨b1, o1, none⟩ : Addr).add j) = some u := fun j u hu => by rw [add_at]; exact cell_step (HV.out j u hu) hb
          have GV := Lib.hid gv
          clear gv
          go_wp2_with (at_builtin; refine wpList_append_own _ rfl _ _ 25 rfl w.heap.size 32 i0 (.float .f32 0) 1 4 Try.underlying25 hi0 hz0 hz1 hz2 rfl (by decide) _ _ _ rfl hown ⟨b1, o1, none⟩ n c1 (xs.map (Value.float .f32)) rfl (by rw [List.length_map, HN.out, Nat.mul_one]) GV.out (flt_oneCell xs) (by simp only [List.length_nil]; unfold maxLen; omega) (by simp only [List.length_nil]; omega) hb.size ?_; intro v' w' hown' hg' _)
          have hb' : Below w.heap.size w w' := hb.trans (grown_below hg' hown (Nat.le_refl _) hb.size)
          obtain ⟨a', c', rfl⟩ := ownsRow_shape hown'
          go_roundw
          case rel => exact ⟨1, xs, a', c', by go_num, .inr (.inl ⟨rfl, rfl⟩), by rw [← HN.out]; simp, by rw [← HN.out]; simpa using hown', hb'⟩
          case measure => simp [intOf]
        · have gv : ∀ j u, (ys.map (Value.float .f32))[j]? = some u → wr.cell? ((⟨b2, o2, none⟩ : Addr).add j) = some u := fun j u hu => by rw [add_at]; exact cell_step (HU.out j u hu) hb
          have GV := Lib.hid gv
          clear gv
          go_wp2_with (at_builtin; refine wpList_append_own _ rfl _ _ 25 rfl w.heap.size 32 i0 (.float .f32 0) 1 4 Try.underlying25 hi0 hz0 hz1 hz2 rfl (by decide) _ _ _ rfl hown ⟨b2, o2, none⟩ m c2 (ys.map (Value.float .f32)) rfl (by rw [List.length_map, HM.out, Nat.mul_one]) GV.out (flt_oneCell ys) (by rw [← HN.out]; unfold maxLen; omega) (by rw [← HN.out]; omega) hb.size ?_; intro v' w' hown' hg' _)
          have hb' : Below w.heap.size w w' := hb.trans (grown_below hg' hown (Nat.le_refl _) hb.size)
          obtain ⟨a', c', rfl⟩ := ownsRow_shape hown'
          go_roundw
          case rel => exact ⟨2, xs ++ ys, a', c', by go_num, .inr (.inr ⟨rfl, rfl⟩), by rw [List.length_append, ← HM.out], by rw [List.length_append, List.map_append, ← HM.out]; exact hown', hb'⟩
          case measure => simp [intOf]
        · go_wp2
          go_ret
          exact ⟨_, _, rfl, hown, hb⟩

end Go.Proofs.Ytmocfnpbofeiiaa
