/- A table with rows and columns exchanged. -/
import Derived.Test.YtmocfnpbofeiiaaMGiv
import Derived.Test.YtmocfnpbofeiiaaMStb
namespace Go.Proofs.Ytmocfnpbofeiiaa
set_option linter.unusedSimpArgs false
set_option linter.unusedVariables false
open Go.RowKit

/-- The column k of rows of m numbers, the first a of it. -/
def colOf (xs : List Nat) (m k a : Nat) : List Nat := (List.range a).map (fun r => xs[r * m + k]?.getD 0)
/-- The first k columns, one behind the other. -/
def turnOf (xs : List Nat) (m a k : Nat) : List Nat := (List.range k).flatMap (fun c => colOf xs m c a)
theorem colOf_succ (xs : List Nat) (m k a : Nat) : colOf xs m k (a + 1) = colOf xs m k a ++ [xs[a * m + k]?.getD 0] := by simp [colOf, List.range_succ]
theorem colOf_length (xs : List Nat) (m k a : Nat) : (colOf xs m k a).length = a := by simp [colOf]
theorem turnOf_succ (xs : List Nat) (m a k : Nat) : turnOf xs m a (k + 1) = turnOf xs m a k ++ colOf xs m k a := by simp [turnOf, List.range_succ]
theorem turnOf_length (xs : List Nat) (m a k : Nat) : (turnOf xs m a k).length = k * a := by
  induction k with
  | zero => simp [turnOf]
  | succ k ih => rw [turnOf_succ, List.length_append, ih, colOf_length, Nat.add_mul, Nat.one_mul]
theorem colOf_mem {xs : List Nat} {m k a : Nat} (h : a * m ≤ xs.length) (hk : k < m) {x : Nat} (hx : x ∈ colOf xs m k a) : x ∈ xs := by
  unfold colOf at hx
  obtain ⟨r, hr, rfl⟩ := List.mem_map.1 hx
  rw [List.mem_range] at hr
  have h1 : (r + 1) * m ≤ a * m := row_le hr
  rw [Nat.add_mul, Nat.one_mul] at h1
  rw [List.getElem?_eq_getElem (by omega)]
  exact List.getElem_mem _
theorem turnOf_mem {xs : List Nat} {m a k : Nat} (h : a * m ≤ xs.length) (hk : k ≤ m) {x : Nat} (hx : x ∈ turnOf xs m a k) : x ∈ xs := by
  unfold turnOf at hx
  obtain ⟨c, hc, hx⟩ := List.mem_flatMap.1 hx
  rw [List.mem_range] at hc
  exact colOf_mem h (by omega) hx
/-- A struct of two numbers and a slice of its own that reads ys comes back. -/
def RetSt (w : World) (i j : Int) (ys : List Nat) (e : Ending) (w' : World) : Prop :=
  ∃ a c, e = .returned (.agg #[.int .i64 i, .int .i64 j, .slice a ys.length c]) ∧ w'.ownsRow w.heap.size 32 1 (.slice a ys.length c) ys.length (ys.map (Value.float .f32)) ∧ Below w.heap.size w w'
theorem RetSt.mk {w w' : World} {i j : Int} {ys : List Nat} {a : Option Addr} {c : Nat} (h : w'.ownsRow w.heap.size 32 1 (.slice a ys.length c) ys.length (ys.map (Value.float .f32))) (hb : Below w.heap.size w w') :
    RetSt w i j ys (.returned (.agg #[.int .i64 i, .int .i64 j, .slice a ys.length c])) w' := ⟨a, c, rfl, h, hb⟩

set_option maxHeartbeats 4000000 in
theorem turned_any (a m : Nat) (v : Value) (xs : List Nat) (w : World) (hv : SlR w v (xs.map (Value.float .f32))) (a1 : 1 ≤ a) (a2 : a ≤ 8) (m1 : 1 ≤ m) (m2 : m ≤ 8) (hl : xs.length = a * m) :
    Calls Try.prog 78 #[.agg #[.int .i64 a, .int .i64 m, v]] w (RetSt w m a (turnOf xs m a m)) := by
  have hpos : 0 < a * m := Nat.mul_pos a1 m1
  obtain ⟨b, off, c, rfl, hnc, hcm⟩ := SlR.addr hv (by simp; omega)
  simp only [List.length_map] at hv hnc ⊢
  obtain ⟨a4, n4, c4, he4, hnl4, hnc4, hcm4, hcell⟩ := SlR.opened 0 hv
  simp only [Value.slice.injEq, Option.some.injEq] at he4
  obtain ⟨rfl, rfl, rfl⟩ := he4
  have HL := Lib.hid hl
  have HC : Hid (∀ k, k < xs.length → w.cell? ⟨b, off + k, none⟩ = some (.float .f32 (xs[k]?.getD 0))) := by
    show ∀ k, _
    intro k hk
    obtain ⟨b1, o1, h1, h2, _⟩ := hcell k hk
    simp only [Option.some.injEq, Addr.mk.injEq] at h1
    obtain ⟨rfl, rfl, _⟩ := h1
    rw [List.getD_eq_getElem?_getD] at h2
    exact h2
  have hn64 : xs.length ≤ 64 := by rw [hl]; exact prod_le a2 m2
  generalize hn : xs.length = n at *
  have HNL := Lib.hid hn
  clear hl hcell hnl4 hnc4 hcm4 hv hn hpos
  go_enter Try.func78, Try.ntmps78
  go_wp2
  obtain ⟨W2, hW2⟩ : ∃ W2, W2 = ((w.alloc (.cells #[.int .i64 (a : Int), .int .i64 (m : Int), .slice (some ⟨b, off, none⟩) n c] 47)).alloc (.cells #[.int .i64 0, .int .i64 0, .slice none 0 0] 47)).alloc (.cells #[.int .i64 (m : Int), .int .i64 (a : Int), .slice none 0 0] 47) := ⟨_, rfl⟩
  have hsz : W2.heap.size = w.heap.size + 3 := by rw [hW2]; simp
  have hbw : Below w.heap.size w W2 := by rw [hW2]; go_grown
  have c0 : World.cell? W2 ⟨w.heap.size, 0, none⟩ = some (.int .i64 (a : Int)) := by rw [hW2]; go_cell
  have c1 : World.cell? W2 ⟨w.heap.size, 1, none⟩ = some (.int .i64 (m : Int)) := by rw [hW2]; go_cell
  have c2 : World.cell? W2 ⟨w.heap.size, 2, none⟩ = some (.slice (some ⟨b, off, none⟩) n c) := by rw [hW2]; go_cell
  have d0 : World.cell? W2 ⟨w.heap.size + 1, 0, none⟩ = some (.int .i64 0) := by rw [hW2]; go_cell
  have d1 : World.cell? W2 ⟨w.heap.size + 1, 1, none⟩ = some (.int .i64 0) := by rw [hW2]; go_cell
  have d2 : World.cell? W2 ⟨w.heap.size + 1, 2, none⟩ = some (.slice none 0 0) := by rw [hW2]; go_cell
  have hD : ∀ o, World.frozen? W2 ⟨w.heap.size + 1, o, none⟩ = false := by intro o; rw [hW2, World.frozen?_alloc_past, World.frozen?_alloc_at] <;> simp
  have hS0 : StB W2 (w.heap.size + 1 + 1) m a none 0 (turnOf xs m a 0) := by
    refine ⟨?_, ?_, ?_, ?_, rfl, .inl ⟨rfl, rfl⟩⟩
    · rw [hW2]; go_cell
    · rw [hW2]; go_cell
    · show World.cell? W2 _ = some (.slice none 0 0)
      rw [hW2]; go_cell
    · rw [hW2, World.frozen?_alloc_at]; simp
  rw [← hW2]
  clear hW2
  go_loopw [13] (fun q wr => ∃ k : Nat, k ≤ m ∧ q = .int .i64 k ∧ (∃ ad cd, StB wr (w.heap.size + 1 + 1) m a ad cd (turnOf xs m a k)) ∧ Below (w.heap.size + 1 + 1) W2 wr) (fun q _ => m - (intOf q).toNat)
  case atStart => exact ⟨0, Nat.zero_le _, rfl, ⟨none, 0, hS0⟩, Below.refl _ _⟩
  case round =>
    clear hS0
    obtain ⟨k, hk, rfl, ⟨ad, cd, hS⟩, hb⟩ := hrel
    have e0 := (hb.cell (p := ⟨w.heap.size, 0, none⟩) (show w.heap.size < w.heap.size + 1 + 1 by omega)).trans c0
    by_cases hlt : k < m
    · go_wp2
      obtain ⟨wo, hwo⟩ : ∃ wo : World, wo = wr := ⟨_, rfl⟩
      rw [← hwo] at hS hb e0 ⊢
      clear hwo wr
      go_loopw [18] (fun q wr => ∃ r : Nat, r ≤ a ∧ q = .int .i64 r ∧ (∃ ad cd, StB wr (w.heap.size + 1 + 1) m a ad cd (turnOf xs m a k ++ colOf xs m k r)) ∧ Below (w.heap.size + 1 + 1) W2 wr) (fun q _ => a - (intOf q).toNat)
      case atStart => exact ⟨0, Nat.zero_le _, rfl, ⟨ad, cd, by simpa [colOf] using hS⟩, hb⟩
      case round =>
        clear hS hb e0
        obtain ⟨r, hr, rfl, ⟨ad, cd, hS⟩, hb⟩ := hrel
        by_cases hrlt : r < a
        · have e0 := (hb.cell (p := ⟨w.heap.size, 0, none⟩) (show w.heap.size < w.heap.size + 1 + 1 by omega)).trans c0
          have e1 := (hb.cell (p := ⟨w.heap.size, 1, none⟩) (show w.heap.size < w.heap.size + 1 + 1 by omega)).trans c1
          have e2 := (hb.cell (p := ⟨w.heap.size, 2, none⟩) (show w.heap.size < w.heap.size + 1 + 1 by omega)).trans c2
          obtain ⟨p, hp⟩ : ∃ p, p = r * m := ⟨_, rfl⟩
          have hpm : p + m ≤ n := by rw [hp, HL.out]; have := row_le (m := m) hrlt; rw [Nat.add_mul, Nat.one_mul] at this; exact this
          have hx0 := HC.out (p + k) (by omega)
          have hbl : b < w.heap.size := World.block_lt_of_cell? w _ hx0
          have hx := (hb.cell (p := ⟨b, off + (p + k), none⟩) (show b < w.heap.size + 1 + 1 by omega)).trans ((hbw.cell (p := ⟨b, off + (p + k), none⟩) (World.block_lt_of_cell? w _ hx0)).trans hx0)
          rw [← Nat.add_assoc] at hx
          have HCS := Lib.hid (colOf_succ xs m k r)
          rw [← hp] at HCS
          generalize hy : xs[p + k]?.getD 0 = y at *
          obtain ⟨zs, hzs⟩ : ∃ zs, zs = turnOf xs m a k ++ colOf xs m k r := ⟨_, rfl⟩
          rw [← hzs] at hS
          have HZ := Lib.hid hzs
          have hzl : zs.length ≤ 4096 := by rw [HZ.out, List.length_append, turnOf_length, colOf_length]; have : k * a ≤ 8 * 8 := Nat.mul_le_mul (by omega) (by omega); omega
          clear hzs
          have hlS := hS.lt
          have HP := Lib.hid hp
          clear hp
          have hSd : StB ((wr.alloc (.cells #[.int .i64 (a : Int), .int .i64 (m : Int), .slice (some ⟨b, off, none⟩) n c] 47)).alloc (.cells #[.float .f32 y] 32)).drew (w.heap.size + 1 + 1) m a ad cd zs := hS.below (by go_grown)
          have hbd : Below (w.heap.size + 1 + 1) W2 ((wr.alloc (.cells #[.int .i64 (a : Int), .int .i64 (m : Int), .slice (some ⟨b, off, none⟩) n c] 47)).alloc (.cells #[.float .f32 y] 32)).drew := Below.drew ((hb.alloc (by omega) _).alloc (by simp only [World.size_alloc]; omega) _)
          have hry : World.cell? ((wr.alloc (.cells #[.int .i64 (a : Int), .int .i64 (m : Int), .slice (some ⟨b, off, none⟩) n c] 47)).alloc (.cells #[.float .f32 y] 32)).drew ⟨wr.heap.size + 1, 0, none⟩ = some (.float .f32 y) := by go_cell
          have hxa : World.cell? (wr.alloc (.cells #[.int .i64 (a : Int), .int .i64 (m : Int), .slice (some ⟨b, off, none⟩) n c] 47)) ⟨b, off + p + k, none⟩ = some (.float .f32 y) := cell_step hx (by go_grown)
          have f2 := hS.2.2.1
          have f2a := cell_step (W1 := wr.alloc (.cells #[.int .i64 (a : Int), .int .i64 (m : Int), .slice (some ⟨b, off, none⟩) n c] 47)) f2 (by go_grown)
          have f2b : World.cell? ((wr.alloc (.cells #[.int .i64 (a : Int), .int .i64 (m : Int), .slice (some ⟨b, off, none⟩) n c] 47)).alloc (.cells #[.float .f32 y] 32)) _ = _ := hSd.2.2.1
          have f3 := hS.2.2.2.1
          go_wp2
          have X := fun (ops : Array Oper) (o : Oper) (A : Act) (K : Act → World → Prop) (Q : Exit → Act → World → Prop) (E : Prop) h1 s x h2 h3 h4 h5 => StB.law (ops := ops) (o := o) (A := A) (K := K) (Q := Q) (E := E) hSd hzl y (wr.heap.size + 1) hry (wr.heap.size + 1 + 1) (by simp [World.drew]) h1 s x h2 h3 h4 h5
          have Y := fun (ops : Array Oper) (o : Oper) (A : Act) (K : Act → World → Prop) (Q : Exit → Act → World → Prop) (E : Prop) => step_call (P := Try.prog) (ops := ops) (o := o) (A := A) (w := wr.drew) (K := K) (Q := Q) (E := E) (fun args w => run_enter Try.func82 (by kernel_rfl) (by kernel_rfl) args w) [.agg #[.int .i64 (a : Int), .int .i64 (m : Int), .slice (some ⟨b, off, none⟩) n c], .int .i64 (r : Int)] [] _ _ (tbRow_at a m r p b off n c wr.drew HP.out m1 (by omega) (by omega) hpm hnc hcm)
          go_region_law ((first | ((with_reducible refine Y _ _ _ _ _ _ ?_ (.func 82) [.tmp 23, .tmp 24] #[47, 2] ?_ ?_ ?_ ?_); rfl; rfl; rfl; rfl) | ((with_reducible refine X _ _ _ _ _ _ ?_ (.tmp 22) (.tmp 29) ?_ ?_ ?_ ?_); rfl; rfl; rfl; rfl; intro g2 c2 w2 ho2 hg2 hc2 hf2)))
          clear X Y
          all_goals
            go_wp2
            exact ⟨⟨r + 1, by omega, by go_num, ⟨some ⟨g2, 0, none⟩, c2, by rw [HCS.out, ← List.append_assoc, ← HZ.out]; exact StB.push hSd hg2 ho2⟩, push_below hbd hSd (by omega) hg2⟩, by simp [intOf]; omega⟩
        · obtain rfl : a = r := by omega
          go_wp2
          go_roundw
          case rel => exact ⟨k + 1, by omega, by go_num, ⟨ad, cd, by rw [turnOf_succ]; exact hS⟩, hb⟩
          case measure => simp [intOf]; omega
    · obtain rfl : m = k := by omega
      have g0 := (hb.cell (p := ⟨w.heap.size + 1, 0, none⟩) (show w.heap.size + 1 < w.heap.size + 1 + 1 by omega)).trans d0
      have g1 := (hb.cell (p := ⟨w.heap.size + 1, 1, none⟩) (show w.heap.size + 1 < w.heap.size + 1 + 1 by omega)).trans d1
      have g2 := (hb.cell (p := ⟨w.heap.size + 1, 2, none⟩) (show w.heap.size + 1 < w.heap.size + 1 + 1 by omega)).trans d2
      have z0 := (hb.frozen (p := ⟨w.heap.size + 1, 0, none⟩) (show w.heap.size + 1 < w.heap.size + 1 + 1 by omega)).trans (hD 0)
      have z1 := (hb.frozen (p := ⟨w.heap.size + 1, 1, none⟩) (show w.heap.size + 1 < w.heap.size + 1 + 1 by omega)).trans (hD 1)
      have z2 := (hb.frozen (p := ⟨w.heap.size + 1, 2, none⟩) (show w.heap.size + 1 < w.heap.size + 1 + 1 by omega)).trans (hD 2)
      obtain ⟨s0, s1, s2, s3, s4⟩ := hS
      clear hD c0 c1 c2 d0 d1 d2 e0
      go_wp2
      refine bodyPost_ret (v := .agg #[.int .i64 (m : Int), .int .i64 (a : Int), .slice ad (turnOf xs m a m).length cd]) (by simp [results, Try.results78, go_sem, *]) rfl ?_
      have o1 := ownsRow_setCell_below (a := ⟨w.heap.size + 1, 0, none⟩) s4 (show w.heap.size + 1 < w.heap.size + 1 + 1 + 1 by omega) (.int .i64 (m : Int))
      have o2 := ownsRow_setCell_below (a := ⟨w.heap.size + 1, 1, none⟩) o1 (show w.heap.size + 1 < w.heap.size + 1 + 1 + 1 by omega) (.int .i64 (a : Int))
      have o3 := ownsRow_setCell_below (a := ⟨w.heap.size + 1, 2, none⟩) o2 (show w.heap.size + 1 < w.heap.size + 1 + 1 + 1 by omega) (.slice ad (turnOf xs m a m).length cd)
      have b0 : Below w.heap.size w wr := hbw.trans (hb.mono (by omega))
      have b1 := b0.setCell (p := ⟨w.heap.size + 1, 0, none⟩) (show w.heap.size ≤ w.heap.size + 1 by omega) (.int .i64 (m : Int))
      have b2 := b1.setCell (p := ⟨w.heap.size + 1, 1, none⟩) (show w.heap.size ≤ w.heap.size + 1 by omega) (.int .i64 (a : Int))
      have b3 := b2.setCell (p := ⟨w.heap.size + 1, 2, none⟩) (show w.heap.size ≤ w.heap.size + 1 by omega) (.slice ad (turnOf xs m a m).length cd)
      exact RetSt.mk (ownsRow_base o3 (by omega)) b3

set_option maxHeartbeats 4000000 in
theorem l02Turn_any (g : Nat) (a m : Nat) (v : Value) (xs : List Nat) (w : World) (hg0 : w.cell? ⟨g, 0, none⟩ = some (.int .i64 a)) (hg1 : w.cell? ⟨g, 1, none⟩ = some (.int .i64 m)) (hg2 : w.cell? ⟨g, 2, none⟩ = some v) (hv : SlR w v (xs.map (Value.float .f32))) (a1 : 1 ≤ a) (a2 : a ≤ 8) (m1 : 1 ≤ m) (m2 : m ≤ 8) (hl : xs.length = a * m) :
    Calls Try.prog 92 #[.pointer (some ⟨g, 0, none⟩)] w (RetSt w m a (turnOf xs m a m)) := by
  have hpos : 0 < a * m := Nat.mul_pos a1 m1
  obtain ⟨b, off, c, rfl, hnc, hcm⟩ := SlR.addr hv (by simp; omega)
  simp only [List.length_map] at hv hnc hg2
  obtain ⟨a4, n4, c4, he4, hnl4, hnc4, hcm4, hcell⟩ := SlR.opened 0 hv
  simp only [Value.slice.injEq, Option.some.injEq] at he4
  obtain ⟨rfl, rfl, rfl⟩ := he4
  have HL := Lib.hid hl
  have HC : Hid (∀ k, k < xs.length → w.cell? ⟨b, off + k, none⟩ = some (.float .f32 (xs[k]?.getD 0))) := by
    show ∀ k, _
    intro k hk
    obtain ⟨b1, o1, h1, h2, _⟩ := hcell k hk
    simp only [Option.some.injEq, Addr.mk.injEq] at h1
    obtain ⟨rfl, rfl, _⟩ := h1
    rw [List.getD_eq_getElem?_getD] at h2
    exact h2
  have hn64 : xs.length ≤ 64 := by rw [hl]; exact prod_le a2 m2
  generalize hn : xs.length = n at *
  have HNL := Lib.hid hn
  have hgl : g < w.heap.size := World.block_lt_of_cell? w _ hg0
  clear hl hcell hnl4 hnc4 hcm4 hv hn hpos
  go_enter Try.func92, Try.ntmps92
  go_wp2
  go_region_held3 (fun W => World.cell? W ⟨g, 0, none⟩ = some (.int .i64 (a : Int)) ∧ World.cell? W ⟨g, 1, none⟩ = some (.int .i64 (m : Int)) ∧ Fr w W) (exact ⟨cell_step hg0 (by go_grown), cell_step hg1 (by go_grown), (show Below _ _ _ by go_grown)⟩) (fail)
  rename_i hHold
  clear hHold
  obtain ⟨W2, hW2⟩ : ∃ W2, W2 = ((w.alloc (.cells #[.int .i64 0, .int .i64 0, .slice none 0 0] 47)).alloc (.cells #[.int .i64 (m : Int), .int .i64 (a : Int), .slice none 0 0] 47)).drew := ⟨_, rfl⟩
  have hsz : W2.heap.size = w.heap.size + 2 := by rw [hW2]; simp [World.drew]
  have hbw : Below w.heap.size w W2 := by rw [hW2]; go_grown
  have c0 := cell_step hg0 hbw
  have c1 := cell_step hg1 hbw
  have c2 := cell_step hg2 hbw
  have d0 : World.cell? W2 ⟨w.heap.size, 0, none⟩ = some (.int .i64 0) := by rw [hW2]; go_cell
  have d1 : World.cell? W2 ⟨w.heap.size, 1, none⟩ = some (.int .i64 0) := by rw [hW2]; go_cell
  have d2 : World.cell? W2 ⟨w.heap.size, 2, none⟩ = some (.slice none 0 0) := by rw [hW2]; go_cell
  have hD : ∀ o, World.frozen? W2 ⟨w.heap.size, o, none⟩ = false := by
    intro o; rw [hW2]
    show World.frozen? (World.alloc _ _) _ = false
    rw [World.frozen?_alloc_past, World.frozen?_alloc_at]
    · rfl
    · simp
  have hS0 : StB W2 (w.heap.size + 1) m a none 0 (turnOf xs m a 0) := by
    refine ⟨?_, ?_, ?_, ?_, rfl, .inl ⟨rfl, rfl⟩⟩
    · rw [hW2]; go_cell
    · rw [hW2]; go_cell
    · show World.cell? W2 _ = some (.slice none 0 0)
      rw [hW2]; go_cell
    · rw [hW2]
      show World.frozen? (World.alloc _ _) _ = false
      rw [World.frozen?_alloc_at]; simp
  rw [← hW2]
  clear hW2 hg0 hg1 hg2
  go_wp2
  go_loopw [4] (fun q wr => ∃ k : Nat, k ≤ m ∧ q = .int .i64 k ∧ (∃ ad cd, StB wr (w.heap.size + 1) m a ad cd (turnOf xs m a k)) ∧ Below (w.heap.size + 1) W2 wr) (fun q _ => m - (intOf q).toNat)
  case atStart => exact ⟨0, Nat.zero_le _, rfl, ⟨none, 0, hS0⟩, Below.refl _ _⟩
  case round =>
    clear hS0
    obtain ⟨k, hk, rfl, ⟨ad, cd, hS⟩, hb⟩ := hrel
    have e0 := (hb.cell (p := ⟨g, 0, none⟩) (show g < w.heap.size + 1 by omega)).trans c0
    have e1 := (hb.cell (p := ⟨g, 1, none⟩) (show g < w.heap.size + 1 by omega)).trans c1
    by_cases hlt : k < m
    · go_wp2
      obtain ⟨wo, hwo⟩ : ∃ wo : World, wo = wr := ⟨_, rfl⟩
      rw [← hwo] at hS hb e0 e1 ⊢
      clear hwo wr
      go_loopw [5] (fun q wr => ∃ r : Nat, r ≤ a ∧ q = .int .i64 r ∧ (∃ ad cd, StB wr (w.heap.size + 1) m a ad cd (turnOf xs m a k ++ colOf xs m k r)) ∧ Below (w.heap.size + 1) W2 wr) (fun q _ => a - (intOf q).toNat)
      case atStart => exact ⟨0, Nat.zero_le _, rfl, ⟨ad, cd, by simpa [colOf] using hS⟩, hb⟩
      case round =>
        clear hS hb e0 e1
        obtain ⟨r, hr, rfl, ⟨ad, cd, hS⟩, hb⟩ := hrel
        have e0 := (hb.cell (p := ⟨g, 0, none⟩) (show g < w.heap.size + 1 by omega)).trans c0
        by_cases hrlt : r < a
        · have e1 := (hb.cell (p := ⟨g, 1, none⟩) (show g < w.heap.size + 1 by omega)).trans c1
          have e2 := (hb.cell (p := ⟨g, 2, none⟩) (show g < w.heap.size + 1 by omega)).trans c2
          obtain ⟨p, hp⟩ : ∃ p, p = r * m := ⟨_, rfl⟩
          have hpm : p + m ≤ n := by rw [hp, HL.out]; have := row_le (m := m) hrlt; rw [Nat.add_mul, Nat.one_mul] at this; exact this
          have hx0 := HC.out (p + k) (by omega)
          have hbl : b < w.heap.size := World.block_lt_of_cell? w _ hx0
          have hx := (hb.cell (p := ⟨b, off + (p + k), none⟩) (show b < w.heap.size + 1 by omega)).trans ((hbw.cell (p := ⟨b, off + (p + k), none⟩) (World.block_lt_of_cell? w _ hx0)).trans hx0)
          have HCS := Lib.hid (colOf_succ xs m k r)
          rw [← hp] at HCS
          generalize hy : xs[p + k]?.getD 0 = y at *
          obtain ⟨q, hq⟩ : ∃ q, q = p + k := ⟨_, rfl⟩
          rw [← hq] at hx
          have i1 : (r : Int) * (m : Int) = (p : Int) := by rw [hp]; simp
          have i2 : IntKind.i64.wrap ((r : Int) * (m : Int)) = (p : Int) := by rw [i1]; exact IntWalk.i64_in _ (by omega)
          have i3 : (p : Int) + (k : Int) = (q : Int) := by rw [hq]; simp
          have i4 : IntKind.i64.wrap ((p : Int) + (k : Int)) = (q : Int) := by rw [i3]; exact IntWalk.i64_in _ (by omega)
          have j1 : IntKind.i64.wrap (p : Int) = (p : Int) := IntWalk.i64_in _ (by omega)
          have j2 : IntKind.i64.wrap (q : Int) = (q : Int) := IntWalk.i64_in _ (by omega)
          have i5 : (0 : Int) ≤ (q : Int) := by omega
          have i6 : (q : Int) < (n : Int) := by omega
          have i7 : q < n := by omega
          obtain ⟨zs, hzs⟩ : ∃ zs, zs = turnOf xs m a k ++ colOf xs m k r := ⟨_, rfl⟩
          rw [← hzs] at hS
          have HZ := Lib.hid hzs
          have hzl : zs.length ≤ 4096 := by rw [HZ.out, List.length_append, turnOf_length, colOf_length]; have : k * a ≤ 8 * 8 := Nat.mul_le_mul (by omega) (by omega); omega
          clear hzs hp hq hx0
          have hlS := hS.lt
          have hSd : StB (wr.alloc (.cells #[.float .f32 y] 32)).drew (w.heap.size + 1) m a ad cd zs := hS.below (by go_grown)
          have hbd : Below (w.heap.size + 1) W2 (wr.alloc (.cells #[.float .f32 y] 32)).drew := Below.drew (hb.alloc (by omega) _)
          have hry : World.cell? (wr.alloc (.cells #[.float .f32 y] 32)).drew ⟨wr.heap.size, 0, none⟩ = some (.float .f32 y) := by go_cell
          have f2 := hS.2.2.1
          have f2a : World.cell? (wr.alloc (.cells #[.float .f32 y] 32)) _ = _ := hSd.2.2.1
          go_wp2
          have X := fun (ops : Array Oper) (o : Oper) (A : Act) (K : Act → World → Prop) (Q : Exit → Act → World → Prop) (E : Prop) h1 s x h2 h3 h4 h5 => StB.law (ops := ops) (o := o) (A := A) (K := K) (Q := Q) (E := E) hSd hzl y wr.heap.size hry (wr.heap.size + 1) (by simp [World.drew]) h1 s x h2 h3 h4 h5
          go_region_law (((with_reducible refine X _ _ _ _ _ _ ?_ (.tmp 32) (.tmp 47) ?_ ?_ ?_ ?_); rfl; rfl; rfl; rfl; intro g2 c2 w2 ho2 hg2 hc2 hf2))
          clear X
          all_goals
            go_wp2
            exact ⟨⟨r + 1, by omega, by go_num, ⟨some ⟨g2, 0, none⟩, c2, by rw [HCS.out, ← List.append_assoc, ← HZ.out]; exact StB.push hSd hg2 ho2⟩, push_below hbd hSd (by omega) hg2⟩, by simp [intOf]; omega⟩
        · obtain rfl : a = r := by omega
          go_wp2
          go_roundw
          case rel => exact ⟨k + 1, by omega, by go_num, ⟨ad, cd, by rw [turnOf_succ]; exact hS⟩, hb⟩
          case measure => simp [intOf]; omega
    · obtain rfl : m = k := by omega
      have g0 := (hb.cell (p := ⟨w.heap.size, 0, none⟩) (show w.heap.size < w.heap.size + 1 by omega)).trans d0
      have g1 := (hb.cell (p := ⟨w.heap.size, 1, none⟩) (show w.heap.size < w.heap.size + 1 by omega)).trans d1
      have g2 := (hb.cell (p := ⟨w.heap.size, 2, none⟩) (show w.heap.size < w.heap.size + 1 by omega)).trans d2
      have z0 := (hb.frozen (p := ⟨w.heap.size, 0, none⟩) (show w.heap.size < w.heap.size + 1 by omega)).trans (hD 0)
      have z1 := (hb.frozen (p := ⟨w.heap.size, 1, none⟩) (show w.heap.size < w.heap.size + 1 by omega)).trans (hD 1)
      have z2 := (hb.frozen (p := ⟨w.heap.size, 2, none⟩) (show w.heap.size < w.heap.size + 1 by omega)).trans (hD 2)
      obtain ⟨s0, s1, s2, s3, s4⟩ := hS
      clear hD c0 c1 c2 d0 d1 d2 e0
      go_wp2
      refine bodyPost_ret (v := .agg #[.int .i64 (m : Int), .int .i64 (a : Int), .slice ad (turnOf xs m a m).length cd]) (by simp [results, Try.results92, go_sem, *]) rfl ?_
      have o1 := ownsRow_setCell_below (a := ⟨w.heap.size, 0, none⟩) s4 (show w.heap.size < w.heap.size + 1 + 1 by omega) (.int .i64 (m : Int))
      have o2 := ownsRow_setCell_below (a := ⟨w.heap.size, 1, none⟩) o1 (show w.heap.size < w.heap.size + 1 + 1 by omega) (.int .i64 (a : Int))
      have o3 := ownsRow_setCell_below (a := ⟨w.heap.size, 2, none⟩) o2 (show w.heap.size < w.heap.size + 1 + 1 by omega) (.slice ad (turnOf xs m a m).length cd)
      have b0 : Below w.heap.size w wr := hbw.trans (hb.mono (by omega))
      have b1 := b0.setCell (p := ⟨w.heap.size, 0, none⟩) (show w.heap.size ≤ w.heap.size by omega) (.int .i64 (m : Int))
      have b2 := b1.setCell (p := ⟨w.heap.size, 1, none⟩) (show w.heap.size ≤ w.heap.size by omega) (.int .i64 (a : Int))
      have b3 := b2.setCell (p := ⟨w.heap.size, 2, none⟩) (show w.heap.size ≤ w.heap.size by omega) (.slice ad (turnOf xs m a m).length cd)
      exact RetSt.mk (ownsRow_base o3 (by omega)) b3

end Go.Proofs.Ytmocfnpbofeiiaa

/- The sums of columns. -/
namespace Go.Proofs.Ytmocfnpbofeiiaa
set_option linter.unusedSimpArgs false
set_option linter.unusedVariables false
open Go.RowKit

/-- The sums of the m columns of a rows. -/
def colsOf (xs : List Nat) (m a : Nat) : List Nat := partsOf (turnOf xs m a m) a m
theorem colsOf_length (xs : List Nat) (m a : Nat) : (colsOf xs m a).length = m := partsOf_length _ _ _
theorem turn_pn {xs : List Nat} {a m : Nat} (h : ∀ x ∈ xs, Pn x) (hl : xs.length = a * m) : ∀ x ∈ turnOf xs m a m, Pn x := fun x hx => h x (turnOf_mem (by omega) (Nat.le_refl _) hx)


def out_ColumnPart (i j : Int) (xs : List Nat) : List Nat × Bool := if validTb i j xs && rowB (colsOf xs j.toNat i.toNat) then (colsOf xs j.toNat i.toNat, true) else ([], false)
theorem len_ColumnPart (i j : Int) (hi : I64 i) (hj : I64 j) (xs : List Nat) (_ : ∀ x ∈ xs, x < 4294967296) (_ : xs.length ≤ 1048576) : (out_ColumnPart i j xs).1.length ≤ 1048576 := by
  unfold out_ColumnPart
  split
  · rename_i h
    rw [Bool.and_eq_true] at h
    obtain ⟨_, h2, _⟩ := rowB_one h.2
    show (colsOf xs j.toNat i.toNat).length ≤ _
    omega
  · exact Nat.zero_le _
theorem outCol_no1 {i j : Int} {xs : List Nat} (h : validTb i j xs = false) : out_ColumnPart i j xs = ([], false) := by unfold out_ColumnPart; rw [h]; rfl
theorem outCol_no2 {a m : Nat} {xs : List Nat} (h : rowB (colsOf xs m a) = false) : out_ColumnPart a m xs = ([], false) := by unfold out_ColumnPart; rw [Int.toNat_natCast, Int.toNat_natCast, h]; simp
theorem outCol_yes {a m : Nat} {xs : List Nat} (hv : validTb a m xs = true) (h : rowB (colsOf xs m a) = true) : out_ColumnPart a m xs = (colsOf xs m a, true) := by unfold out_ColumnPart; rw [Int.toNat_natCast, Int.toNat_natCast, h, hv]; simp

set_option maxHeartbeats 4000000 in
theorem impl_ColumnPart (w : World) (i j : Int) (hi : I64 i) (hj : I64 j) (v : Value) (xs : List Nat) (hv : SlR w v (xs.map (Value.float .f32))) (hx : ∀ x ∈ xs, x < 4294967296) (_ : xs.length ≤ 1048576) :
    Calls Try.prog 28 #[.agg #[.int .i64 i, .int .i64 j, v]] w (RetSl w 32 (out_ColumnPart i j xs).1.length ((out_ColumnPart i j xs).1.map (Value.float .f32)) (fun v => .tuple #[v, .bool (out_ColumnPart i j xs).2])) := by
  have HX := Lib.hid hx
  clear hx
  have hb0 : Below w.heap.size w (w.alloc (.cells #[.int .i64 i, .int .i64 j, v] 47)) := by go_grown
  have hv1 := hv.below hb0
  have c0 : World.cell? (w.alloc (.cells #[.int .i64 i, .int .i64 j, v] 47)) ⟨w.heap.size, 0, none⟩ = some (.int .i64 i) := by simp
  have c1 : World.cell? (w.alloc (.cells #[.int .i64 i, .int .i64 j, v] 47)) ⟨w.heap.size, 1, none⟩ = some (.int .i64 j) := by simp
  have c2 : World.cell? (w.alloc (.cells #[.int .i64 i, .int .i64 j, v] 47)) ⟨w.heap.size, 2, none⟩ = some v := by simp
  generalize hd : validTb i j xs = d
  have HD := Lib.hid hd
  cases d
  · rw [outCol_no1 hd]
    clear hd
    go_enter Try.func28, Try.ntmps28
    go_wp2_with (go_at_call 34; refine (implValidTable_any _ _ _ xs _ hv1 HX.out).mono ?_; rw [HD.out]; rintro e w1 ⟨rfl, hb⟩; have e0 := cell_step c0 hb; have e1 := cell_step c1 hb; have e2 := cell_step c2 hb; have hb1 := hb0.trans (hb.mono hb0.size); have hv2 := hv1.below hb; clear hb)
    go_ret2
    exact RetSl.none (f := fun v => .tuple #[v, .bool false])  hb1
  · obtain ⟨a, m, rfl, rfl, a1, a2, m1, m2, hl, ho⟩ := validTb_nat hd
    have hpn : ∀ x ∈ xs, Pn x := fun x hx => (oneB_ch ho x hx).pn
    have HL := Lib.hid hl
    have HP := Lib.hid hpn
    have HT := Lib.hid (turn_pn hpn hl)
    have HTL := Lib.hid (turnOf_length xs m a m)
    have HB : Hid (∀ x ∈ colsOf xs m a, x < 4294967296) := lt_of_le_inf (partsOf_le (turn_pn hpn hl))
    cases hr : rowB (colsOf xs m a)
    · rw [outCol_no2 hr]
      have HR := Lib.hid hr
      clear hd ho hpn hr hl
      go_enter Try.func28, Try.ntmps28
      go_wp2_with (first | (go_at_call 34; refine (implValidTable_any _ _ _ xs _ hv1 HX.out).mono ?_; rw [HD.out]; rintro e w1 ⟨rfl, hb⟩; have e0 := cell_step c0 hb; have e1 := cell_step c1 hb; have e2 := cell_step c2 hb; have hb1 := hb0.trans (hb.mono hb0.size); have hv2 := hv1.below hb; clear hb) | (go_at_call 78; refine (turned_any a m _ xs _ hv2 a1 a2 m1 m2 HL.out).mono ?_; rintro e w2 ⟨at2, ct2, rfl, hop, hb2⟩; have hb3 := hb1.trans (hb2.mono hb1.size)) | (go_at_call 77; refine (parts_any m a _ (turnOf xs m a m) _ (SlR.own hop) HT.out (by omega) a1 (by omega) HTL.out).mono ?_; rintro e w3 ⟨ap, cp, rfl, hop3, hb4⟩; have hb5 := hb3.trans (hb4.mono hb3.size)) | (go_at_call 68; refine (asRow_no _ (colsOf xs m a) _ (SlR.own hop3) HB.out HR.out).mono ?_; rintro e w4 ⟨rfl, mq, rfl⟩))
      go_ret2
      exact RetSl.none (f := fun v => .tuple #[v, .bool false])  (below_drewN hb5 _)
    · rw [outCol_yes hd hr]
      dsimp only
      rw [colsOf_length]
      have HR := Lib.hid hr
      clear hd ho hpn hr hl
      go_enter Try.func28, Try.ntmps28
      go_wp2_with (first | (go_at_call 34; refine (implValidTable_any _ _ _ xs _ hv1 HX.out).mono ?_; rw [HD.out]; rintro e w1 ⟨rfl, hb⟩; have e0 := cell_step c0 hb; have e1 := cell_step c1 hb; have e2 := cell_step c2 hb; have hb1 := hb0.trans (hb.mono hb0.size); have hv2 := hv1.below hb; clear hb) | (go_at_call 78; refine (turned_any a m _ xs _ hv2 a1 a2 m1 m2 HL.out).mono ?_; rintro e w2 ⟨at2, ct2, rfl, hop, hb2⟩; have hb3 := hb1.trans (hb2.mono hb1.size)) | (go_at_call 77; refine (parts_any m a _ (turnOf xs m a m) _ (SlR.own hop) HT.out (by omega) a1 (by omega) HTL.out).mono ?_; rintro e w3 ⟨ap, cp, rfl, hop3, hb4⟩; have hb5 := hb3.trans (hb4.mono hb3.size)) | (go_at_call 68; refine (asRow_yes _ (colsOf xs m a) _ (SlR.own hop3) HB.out HR.out).mono ?_; rintro e w4 ⟨rfl, mq, rfl⟩))
      go_ret2
      exact RetSl.mk (f := fun v => .tuple #[v, .bool true]) (ownsRow_base (ownsRow_below hop3 (Qu.keep ⟨_, rfl⟩)) hb3.size) (below_drewN hb5 _)


end Go.Proofs.Ytmocfnpbofeiiaa
