/- Channels that lose letters, or make the next ones of them: the reference's contracts. -/
import Derived.Test.YtlahmdnlamifnaaLfi
namespace Go.Proofs.Ytlahmdnlamifnaa
set_option linter.unusedSimpArgs false
set_option linter.unusedVariables false
open Go.RowKit

theorem row_set (m k q u v : Nat) (hk : k < m) (hq : q < m) (hne : k ≠ q) : ((List.replicate m 0).set k u).set q v = (List.range m).map (fun t => if t = k then u else if t = q then v else 0) := by
  apply List.ext_getElem?
  intro t
  by_cases ht : t < m
  · rw [List.getElem?_map, List.getElem?_range ht, Option.map_some]
    by_cases e1 : t = q
    · subst e1
      rw [List.getElem?_set_self (by simp; exact ht), if_neg (fun e => hne e.symm), if_pos rfl]
    · rw [List.getElem?_set_ne (fun e => e1 e.symm)]
      by_cases e2 : t = k
      · subst e2
        rw [List.getElem?_set_self (by simp; exact ht), if_pos rfl]
      · rw [List.getElem?_set_ne (fun e => e2 e.symm), if_neg e2, if_neg e1, List.getElem?_replicate, if_pos ht]
  · rw [List.getElem?_eq_none (by simp; omega), List.getElem?_eq_none (by simp; omega)]
/-- The chances when the first k rows are put and the rest is zero. -/
def fillL (f : Nat → Nat → Nat) (m n k : Nat) : List Nat := chA f m k ++ List.replicate ((n - k) * m) 0
theorem fill_length (f : Nat → Nat → Nat) (m n k : Nat) (h : k ≤ n) : (fillL f m n k).length = n * m := by
  unfold fillL
  rw [List.length_append, chA_length, List.length_replicate, ← Nat.add_mul]
  congr 1; omega
theorem fill_step (f : Nat → Nat → Nat) (m n k q u v : Nat) (hk : k < n) (hkm : k < m) (hq : q < m) (hne : k ≠ q) (hf : chR f k m = (List.range m).map (fun t => if t = k then u else if t = q then v else 0)) :
    ((fillL f m n k).set (k * m + k) u).set (k * m + q) v = fillL f m n (k + 1) := by
  unfold fillL
  have e : (n - k) * m = m + (n - (k + 1)) * m := by
    rw [show n - k = (n - (k + 1)) + 1 by omega, Nat.add_mul, Nat.one_mul, Nat.add_comm]
  rw [e, ← List.replicate_append_replicate, ← List.append_assoc]
  have l1 : (chA f m k ++ List.replicate m 0).length = k * m + m := by rw [List.length_append, chA_length, List.length_replicate]
  have s1 : (chA f m k ++ List.replicate m 0).set (k * m + k) u = chA f m k ++ (List.replicate m 0).set k u := by
    rw [List.set_append_right _ _ (by rw [chA_length]; omega), chA_length, Nat.add_sub_cancel_left]
  have l2 : (chA f m k ++ (List.replicate m 0).set k u).length = k * m + m := by rw [← s1, List.length_set, l1]
  have s2 : (chA f m k ++ (List.replicate m 0).set k u).set (k * m + q) v = chA f m k ++ ((List.replicate m 0).set k u).set q v := by
    rw [List.set_append_right _ _ (by rw [chA_length]; omega), chA_length, Nat.add_sub_cancel_left]
  rw [List.set_append_left _ _ (by rw [l1]; omega), s1, List.set_append_left _ _ (by rw [l2]; omega), s2, row_set m k q u v hkm hq hne, ← hf, chA_succ]
/-- What lies in another block than the one that is written. -/
theorem cell_gb {W W' : World} {a : Addr} {x : Value} {g : Nat} (h : W.cell? a = some x) (hg : W.grownBy W' (some g)) (hne : a.block ≠ g) : W'.cell? a = some x :=
  cell_grown (u := .slice (some ⟨g, 0, none⟩) 0 0) h hg (fun k hk => by simp [Value.ownBlock] at hk; omega)
theorem frozen_gb {W W' : World} {a : Addr} {x : Bool} {g : Nat} (h : W.frozen? a = x) (hl : a.block < W.heap.size) (hg : W.grownBy W' (some g)) (hne : a.block ≠ g) : W'.frozen? a = x :=
  (World.frozen?_of_block (hg.block a.block hl (fun e => hne (by injection e)))).trans h
theorem own_dr {w : World} {b : Nat} {e : TypeId} {s : Nat} {v : Value} {n : Nat} {xs : List Value} (h : w.ownsRow b e s v n xs) : w.drew.ownsRow b e s v n xs := ownsRow_below h ((Qu.refl _).drew).keep
theorem grown_dr {a w : World} {row : Option Nat} (h : a.grownBy w row) : a.grownBy w.drew row := ⟨h.os, h.tape, h.output, h.size, h.block⟩
theorem SlR.set {w : World} {g n c : Nat} {xs : List Value} (h : SlR w (.slice (some ⟨g, 0, none⟩) n c) xs) {b o : Nat} (hne : b ≠ g) (u : Value) : SlR (w.setCell ⟨b, o, none⟩ u) (.slice (some ⟨g, 0, none⟩) n c) xs := by
  obtain ⟨a, c', h1, h2, h3, h4⟩ := h
  refine ⟨a, c', h1, h2, h3, fun k v hv => ?_⟩
  obtain ⟨b', off, ha, hc⟩ := h4 k v hv
  simp only [Value.slice.injEq] at h1
  rw [ha] at h1
  simp only [Option.some.injEq, Addr.mk.injEq] at h1
  obtain ⟨⟨rfl, rfl, _⟩, _⟩ := h1
  exact ⟨g, 0, ha, by rw [World.cell?_setCell_other (h := fun e => hne (by injection e))]; exact hc⟩
theorem fLose_row (x n k : Nat) : chR (fLose x n) k (n + 1) = (List.range (n + 1)).map (fun t => if t = k then sub1 x else if t = n then x else 0) := rfl
theorem fNext_row (x n k : Nat) : chR (fNext x n) k n = (List.range n).map (fun t => if t = k then sub1 x else if t = (k + 1) % n then x else 0) := rfl

set_option maxHeartbeats 4000000 in
theorem spec_LoseChannel (w : World) (l : Int) (hl : I64 l) (x : Nat) (hx : x < 4294967296) :
    Calls Try.prog 11 #[.int .i64 l, .float .f32 x] w (RetRd w (out_LoseChannel l x).2.2.1.length ((out_LoseChannel l x).2.2.1.map (Value.float .f32)) (fun v => .tuple #[.agg #[.int .i64 (out_LoseChannel l x).1, .int .i64 (out_LoseChannel l x).2.1, v], .bool (out_LoseChannel l x).2.2.2])) := by
  obtain ⟨i0, hi0, hz0, hz1, hz2⟩ := info_parts info_Float32S
  obtain ⟨res, hres⟩ : ∃ res, res = out_LoseChannel l x := ⟨_, rfl⟩
  rw [← hres]
  obtain ⟨W1, hW1⟩ : ∃ W1, W1 = w.alloc (.cells #[.int .i64 0, .int .i64 0, .slice none 0 0] 25) := ⟨_, rfl⟩
  have hsz : W1.heap.size = w.heap.size + 1 := by rw [hW1]; simp
  have hbw : Below w.heap.size w W1 := by rw [hW1]; go_grown
  have d0 : World.cell? W1 ⟨w.heap.size, 0, none⟩ = some (.int .i64 0) := by rw [hW1]; go_cell
  have d1 : World.cell? W1 ⟨w.heap.size, 1, none⟩ = some (.int .i64 0) := by rw [hW1]; go_cell
  have d2 : World.cell? W1 ⟨w.heap.size, 2, none⟩ = some (.slice none 0 0) := by rw [hW1]; go_cell
  have z0 : World.frozen? W1 ⟨w.heap.size, 0, none⟩ = false := by rw [hW1, World.frozen?_alloc_at]; simp
  have z1 : World.frozen? W1 ⟨w.heap.size, 1, none⟩ = false := by rw [hW1, World.frozen?_alloc_at]; simp
  have z2 : World.frozen? W1 ⟨w.heap.size, 2, none⟩ = false := by rw [hW1, World.frozen?_alloc_at]; simp
  cases hin : inB l 1 7
  · have HR : Hid (res = (0, 0, [], false)) := by show res = _; rw [hres]; unfold out_LoseChannel; rw [hin]; rfl
    have HI := Lib.hid hin
    clear hin hres
    go_enter Try.func11, Try.ntmps11
    go_wp2_with fail
    rw [← hW1]
    clear hW1
    go_wp2_with (go_at_call 44; refine (l00In_any _ _ _ _).mono ?_; rw [HI.out]; rintro e w' ⟨rfl, rfl⟩)
    refine bodyPost_ret (v := .tuple #[.agg #[.int .i64 0, .int .i64 0, .slice none 0 0], .bool false]) (by simp [results, Try.results11, go_sem, *]) rfl ?_
    rw [HR.out]
    exact RetSl.rd (RetSl.nul (T := 22) (f := fun v => .tuple #[.agg #[.int .i64 0, .int .i64 0, v], .bool false]) (((hbw.setCell (p := ⟨w.heap.size, 0, none⟩) (Nat.le_refl _) _).setCell (p := ⟨w.heap.size, 1, none⟩) (Nat.le_refl _) _).setCell (p := ⟨w.heap.size, 2, none⟩) (Nat.le_refl _) _))
  · have hb := inB_true hin
    obtain ⟨n, rfl⟩ : ∃ n : Nat, l = n := ⟨l.toNat, by omega⟩
    cases hs : shB x
    · have HR : Hid (res = (0, 0, [], false)) := by show res = _; rw [hres]; unfold out_LoseChannel; rw [hin, hs]; rfl
      have HI := Lib.hid hin
      have HS := Lib.hid hs
      clear hin hres hs
      go_enter Try.func11, Try.ntmps11
      go_wp2_with fail
      rw [← hW1]
      clear hW1
      go_wp2_with (first | (go_at_call 44; refine (l00In_any _ _ _ _).mono ?_; rw [HI.out]; rintro e w' ⟨rfl, rfl⟩) | (go_at_call 45; refine (l02Share_any _ _ hx).mono ?_; rw [show decide (x ≤ 1065353216 ∨ x = 2147483648) = false from HS.out]; rintro e w' ⟨rfl, rfl⟩))
      refine bodyPost_ret (v := .tuple #[.agg #[.int .i64 0, .int .i64 0, .slice none 0 0], .bool false]) (by simp [results, Try.results11, go_sem, *]) rfl ?_
      rw [HR.out]
      exact RetSl.rd (RetSl.nul (T := 22) (f := fun v => .tuple #[.agg #[.int .i64 0, .int .i64 0, v], .bool false]) (((hbw.setCell (p := ⟨w.heap.size, 0, none⟩) (Nat.le_refl _) _).setCell (p := ⟨w.heap.size, 1, none⟩) (Nat.le_refl _) _).setCell (p := ⟨w.heap.size, 2, none⟩) (Nat.le_refl _) _))
    · have hR : res = outCh (n : Int) ((n : Int) + 1) (chA (fLose x n) (n + 1) n) := by rw [hres]; unfold out_LoseChannel; rw [hin, hs, Int.toNat_natCast]; rfl
      have HS := Lib.hid hs
      have HI := Lib.hid hin
      have HRES := Lib.hid hR
      have hsome := sub1_some hs
      have hrun := fun W : World => run_fA (P := Try.prog) (w := W) .sub 22 .f32 _ _ hsome
      have HSU : Hid (fA .sub .f32 1065353216 x = sub1 x) := rfl
      obtain ⟨N, hN⟩ : ∃ N, N = n * (n + 1) := ⟨_, rfl⟩
      have hN64 : N ≤ 72 := by rw [hN]; exact Nat.le_trans (Nat.mul_le_mul (show n ≤ 8 by omega) (show (n + 1) ≤ 9 by omega)) (by omega)
      have hNI : (n : Int) * ((n : Int) + 1) = (N : Int) := by rw [hN]; simp
      have hNW : IntKind.i64.wrap ((n : Int) * ((n : Int) + 1)) = (N : Int) := by rw [hNI]; exact IntWalk.i64_in _ (by omega)
      have HNN := Lib.hid hN
      clear hin hres hs hR hsome hN
      go_enter Try.func11, Try.ntmps11
      go_wp2_with fail
      rw [← hW1]
      clear hW1
      go_wp2_with (first | (go_at_call 44; refine (l00In_any _ _ _ _).mono ?_; rw [HI.out]; rintro e w' ⟨rfl, rfl⟩) | (go_at_call 45; refine (l02Share_any _ _ hx).mono ?_; rw [show decide (x ≤ 1065353216 ∨ x = 2147483648) = true from HS.out]; rintro e w' ⟨rfl, rfl⟩) | (at_make; refine wpList_make_full _ rfl _ _ 23 rfl W1.heap.size 22 i0 (.float .f32 0) 1 Try.underlying23 hi0 hz0 hz1 .i64 .i64 _ _ N rfl rfl rfl rfl (by rw [hz2]; omega) (by unfold maxLen; omega) (Nat.le_refl _) ?_; intro w2 hown2 hgr2))
      have hb2 : Below W1.heap.size W1 w2 := (Below.refl _ _).grown hgr2 (Nat.le_refl _) (by simp)
      rw [Nat.mul_one, show (Value.cells (.float .f32 0)) = #[.float .f32 0] from rfl, toList_madeCells_one, hsz] at hown2
      obtain ⟨W3, hW3⟩ : ∃ W3, W3 = w2.alloc (.cells #[.int .i64 (n : Int), .int .i64 ((n : Int) + 1), .slice (some ⟨w.heap.size + 1, 0, none⟩) N N] 25) := ⟨_, rfl⟩
      have hb2' := hb2.size
      rw [hsz] at hb2'
      have hlt2 : w.heap.size + 1 < w2.heap.size := (hown2.lt (w.heap.size + 1) rfl).2
      have hs3 : W3.heap.size = w2.heap.size + 1 := by rw [hW3]; simp
      have hb3 : Below W1.heap.size W1 W3 := by rw [hW3]; exact hb2.alloc hb2.size _
      have hown3 : W3.ownsRow (w.heap.size + 1) 22 1 (.slice (some ⟨w.heap.size + 1, 0, none⟩) N N) N ((fillL (fLose x n) (n + 1) n 0).map (Value.float .f32)) := by
        rw [hW3]
        have e : (fillL (fLose x n) (n + 1) n 0).map (Value.float .f32) = List.replicate N (.float .f32 0) := by simp [fillL, chA, HNN.out]
        rw [e]
        exact hown2.alloc _
      have y0 : World.cell? W3 ⟨w2.heap.size, 0, none⟩ = some (.int .i64 (n : Int)) := by rw [hW3]; simp
      have y1 : World.cell? W3 ⟨w2.heap.size, 1, none⟩ = some (.int .i64 ((n : Int) + 1)) := by rw [hW3]; simp
      have y2 : World.cell? W3 ⟨w2.heap.size, 2, none⟩ = some (.slice (some ⟨w.heap.size + 1, 0, none⟩) N N) := by rw [hW3]; simp
      replace d0 := (hb3.cell (p := ⟨w.heap.size, 0, none⟩) (show w.heap.size < W1.heap.size by omega)).trans d0
      replace d1 := (hb3.cell (p := ⟨w.heap.size, 1, none⟩) (show w.heap.size < W1.heap.size by omega)).trans d1
      replace d2 := (hb3.cell (p := ⟨w.heap.size, 2, none⟩) (show w.heap.size < W1.heap.size by omega)).trans d2
      replace z0 := (hb3.frozen (p := ⟨w.heap.size, 0, none⟩) (show w.heap.size < W1.heap.size by omega)).trans z0
      replace z1 := (hb3.frozen (p := ⟨w.heap.size, 1, none⟩) (show w.heap.size < W1.heap.size by omega)).trans z1
      replace z2 := (hb3.frozen (p := ⟨w.heap.size, 2, none⟩) (show w.heap.size < W1.heap.size by omega)).trans z2
      have HB3 := Lib.hid (hbw.trans (hb3.mono (by omega)))
      rw [← hW3]
      clear hW3 hb2 hb2' hgr2 hown2
      go_loopw [7] (fun q wr => ∃ k : Nat, k ≤ n ∧ q = .int .i64 k ∧ wr.ownsRow (w.heap.size + 1) 22 1 (.slice (some ⟨w.heap.size + 1, 0, none⟩) N N) N ((fillL (fLose x n) (n + 1) n k).map (Value.float .f32)) ∧ W3.grownBy wr (some (w.heap.size + 1))) (fun q _ => n - (intOf q).toNat)
      case atStart => exact ⟨0, Nat.zero_le _, rfl, hown3, World.grownBy.refl _ _⟩
      case round =>
        clear hown3
        obtain ⟨k, hk, rfl, hown, hg⟩ := hrel
        by_cases hlt : k < n
        · have e2 := cell_gb y2 hg (show w2.heap.size ≠ w.heap.size + 1 by omega)
          obtain ⟨P, hP⟩ : ∃ P, P = k * (n + 1) := ⟨_, rfl⟩
          obtain ⟨q, hq⟩ : ∃ q, q = n := ⟨_, rfl⟩
          have hqM : q < (n + 1) := by rw [hq]; first | omega | exact Nat.mod_lt _ (by omega)
          have hkq : k ≠ q := by
            rw [hq]
            first
              | omega
              | (by_cases e : k + 1 = n
                 · rw [e, Nat.mod_self]; omega
                 · rw [Nat.mod_eq_of_lt (by omega)]; omega)
          have hPM : P + (n + 1) ≤ N := by rw [hP, HNN.out]; have := Nat.mul_le_mul_right (n + 1) (show k + 1 ≤ n by omega); rw [Nat.add_mul k 1, Nat.one_mul] at this; exact this
          have HSET : Hid (((fillL (fLose x n) (n + 1) n k).set (P + k) (sub1 x)).set (P + q) x = fillL (fLose x n) (n + 1) n (k + 1)) := by
            show _ = _
            rw [hP]
            exact fill_step (fLose x n) (n + 1) n k q (sub1 x) x hlt (by omega) hqM hkq (by rw [hq]; exact fLose_row x n k)
          have HLEN : Hid ((fillL (fLose x n) (n + 1) n k).length = N) := by show _ = _; rw [fill_length _ _ _ _ hk, HNN.out]
          obtain ⟨p1, hp1⟩ : ∃ p1, p1 = P + k := ⟨_, rfl⟩
          obtain ⟨p2, hp2⟩ : ∃ p2, p2 = P + q := ⟨_, rfl⟩
          rw [← hp1, ← hp2] at HSET
          have i1 : (k : Int) * ((n : Int) + 1) = (P : Int) := by rw [hP]; simp
          have i2 : IntKind.i64.wrap ((k : Int) * ((n : Int) + 1)) = (P : Int) := by rw [i1]; exact IntWalk.i64_in _ (by omega)
          have i0 : (n : Int) = (q : Int) := by omega
          have i3 : (P : Int) + (k : Int) = (p1 : Int) := by rw [hp1]; simp
          have i4 : IntKind.i64.wrap ((P : Int) + (k : Int)) = (p1 : Int) := by rw [i3]; exact IntWalk.i64_in _ (by omega)
          have i5 : (P : Int) + (n : Int) = (p2 : Int) := by rw [hp2, i0]; simp
          have i6 : IntKind.i64.wrap ((P : Int) + (n : Int)) = (p2 : Int) := by rw [i5]; exact IntWalk.i64_in _ (by omega)
          have i7 : p1 < N := by omega
          have i8 : p2 < N := by omega
          have i9 : ¬ p1 = p2 := by omega
          have i10 : ¬ p2 = p1 := by omega
          have j1 : (0 : Int) ≤ (p1 : Int) := by omega
          have j2 : (p1 : Int) < (N : Int) := by omega
          have j3 : (0 : Int) ≤ (p2 : Int) := by omega
          have j4 : (p2 : Int) < (N : Int) := by omega
          have hmod : ((k : Int) + 1) % (n : Int) = (((k + 1) % n : Nat) : Int) := by simp
          try rw [← hq] at hmod
          have c1 := hown.cellAt p1 (by omega)
          have c2 := hown.cellAt p2 (by omega)
          obtain ⟨v1, hv1⟩ : ∃ v1, ((fillL (fLose x n) (n + 1) n k).map (Value.float .f32))[p1]? = some v1 := ⟨_, List.getElem?_eq_getElem (by rw [List.length_map, HLEN.out]; exact i7)⟩
          obtain ⟨v2, hv2⟩ : ∃ v2, ((fillL (fLose x n) (n + 1) n k).map (Value.float .f32))[p2]? = some v2 := ⟨_, List.getElem?_eq_getElem (by rw [List.length_map, HLEN.out]; exact i8)⟩
          rw [hv1] at c1
          rw [hv2] at c2
          have f1 := hown.frozenAt p1
          have f2 := hown.frozenAt p2
          have HO := Lib.hid hown
          have HGG := Lib.hid hg
          clear hv1 hv2 hown hg hP hp1 hp2 hPM hqM hkq hq i0
          go_wp2
          skip
          go_wp2
          go_roundw
          case rel =>
            have o1 := HO.out.stored p1 (.float .f32 (fA .sub .f32 1065353216 x))
            refine ⟨k + 1, by omega, by go_num, ?_, ?_⟩
            · rw [← HSET.out, List.map_set, List.map_set, ← HSU.out]
              first | exact (o1.1.stored p2 _).1 | exact own_dr (o1.1.stored p2 _).1 | exact ((own_dr o1.1).stored p2 _).1
            · first | exact grownBy_trans (grownBy_trans HGG.out o1.2) (o1.1.stored p2 _).2 | exact grown_dr (grownBy_trans (grownBy_trans HGG.out o1.2) (o1.1.stored p2 _).2) | exact grownBy_trans (grown_dr (grownBy_trans HGG.out o1.2)) ((own_dr o1.1).stored p2 _).2
          case measure => simp [intOf]; omega
        · obtain rfl : n = k := by omega
          have hne0 : w2.heap.size ≠ w.heap.size + 1 := by omega
          have hne1 : w.heap.size ≠ w.heap.size + 1 := by omega
          have e0 := cell_gb y0 hg hne0
          have e1 := cell_gb y1 hg hne0
          have e2 := cell_gb y2 hg hne0
          replace d0 := cell_gb d0 hg hne1
          replace d1 := cell_gb d1 hg hne1
          replace d2 := cell_gb d2 hg hne1
          replace z0 := frozen_gb z0 (show w.heap.size < W3.heap.size by omega) hg hne1
          replace z1 := frozen_gb z1 (show w.heap.size < W3.heap.size by omega) hg hne1
          replace z2 := frozen_gb z2 (show w.heap.size < W3.heap.size by omega) hg hne1
          have hbF : Below w.heap.size w wr := HB3.out.trans ⟨hg.os, hg.tape, hg.output, hg.size, fun i hi => hg.block i (by omega) (fun e => by injection e; omega)⟩
          have hsr := hg.size
          have hfin : fillL (fLose x n) (n + 1) n n = chA (fLose x n) (n + 1) n := by unfold fillL; rw [Nat.sub_self, Nat.zero_mul, List.replicate_zero, List.append_nil]
          rw [hfin] at hown
          have HCL : Hid ((chA (fLose x n) (n + 1) n).length = N) := by show _ = _; rw [chA_length, HNN.out]
          have HF : Hid (∀ y ∈ chA (fLose x n) (n + 1) n, y < 4294967296) := by
            show ∀ y ∈ _, _
            intro y hy
            obtain ⟨q, k, hq, hk, rfl⟩ := chA_mem hy
            exact fLose_lt HS.out n _ _
          have hsl : SlR wr (.slice (some ⟨w.heap.size + 1, 0, none⟩) N N) ((chA (fLose x n) (n + 1) n).map (Value.float .f32)) := SlR.own hown
          have hmi : I64 ((n : Int) + 1) := by unfold I64; omega
          generalize chA (fLose x n) (n + 1) n = ys at *
          clear y0 y1 y2 hfin hown
          cases hv : validCh (n : Int) ((n : Int) + 1) ys
          · have HV := Lib.hid hv
            have HR : Hid (res = (0, 0, [], false)) := by show res = _; rw [HRES.out, outCh_no hv]
            clear hv
            go_wp2_with (go_at_call 46; refine (l03Give_no (n : Int) ((n : Int) + 1) (i64_8 (by omega)) hmi _ ys _ hsl HF.out HV.out).mono ?_; rintro e w4 ⟨rfl, hb4⟩; have d0 := cell_step d0 hb4; have d1 := cell_step d1 hb4; have d2 := cell_step d2 hb4; have z0 := (hb4.frozen (p := ⟨w.heap.size, 0, none⟩) (show w.heap.size < wr.heap.size by omega)).trans z0; have z1 := (hb4.frozen (p := ⟨w.heap.size, 1, none⟩) (show w.heap.size < wr.heap.size by omega)).trans z1; have z2 := (hb4.frozen (p := ⟨w.heap.size, 2, none⟩) (show w.heap.size < wr.heap.size by omega)).trans z2; have hb5 := hbF.trans (hb4.mono hbF.size))
            refine bodyPost_ret (v := .tuple #[.agg #[.int .i64 0, .int .i64 0, .slice none 0 0], .bool false]) (by simp [results, Try.results11, go_sem, *]) rfl ?_
            rw [HR.out]
            exact RetSl.rd (RetSl.nul (T := 22) (f := fun v => .tuple #[.agg #[.int .i64 0, .int .i64 0, v], .bool false]) (((hb5.setCell (p := ⟨w.heap.size, 0, none⟩) (Nat.le_refl _) _).setCell (p := ⟨w.heap.size, 1, none⟩) (Nat.le_refl _) _).setCell (p := ⟨w.heap.size, 2, none⟩) (Nat.le_refl _) _))
          · have HV := Lib.hid hv
            have HR : Hid (res = ((n : Int), ((n : Int) + 1), ys, true)) := by show res = _; rw [HRES.out, outCh_yes hv]
            clear hv
            go_wp2_with (go_at_call 46; refine (l03Give_yes (n : Int) ((n : Int) + 1) (i64_8 (by omega)) hmi _ ys _ hsl HF.out HV.out).mono ?_; rintro e w4 ⟨rfl, hb4⟩; have d0 := cell_step d0 hb4; have d1 := cell_step d1 hb4; have d2 := cell_step d2 hb4; have z0 := (hb4.frozen (p := ⟨w.heap.size, 0, none⟩) (show w.heap.size < wr.heap.size by omega)).trans z0; have z1 := (hb4.frozen (p := ⟨w.heap.size, 1, none⟩) (show w.heap.size < wr.heap.size by omega)).trans z1; have z2 := (hb4.frozen (p := ⟨w.heap.size, 2, none⟩) (show w.heap.size < wr.heap.size by omega)).trans z2; have hb5 := hbF.trans (hb4.mono hbF.size))
            refine bodyPost_ret (v := .tuple #[.agg #[.int .i64 (n : Int), .int .i64 ((n : Int) + 1), .slice (some ⟨w.heap.size + 1, 0, none⟩) N N], .bool true]) (by simp [results, Try.results11, go_sem, *]) rfl ?_
            rw [HR.out]
            dsimp only
            rw [HCL.out]
            have hsl5 : SlR _ _ _ := hsl.below hb4
            exact RetRd.mk (f := fun v => .tuple #[.agg #[.int .i64 (n : Int), .int .i64 ((n : Int) + 1), v], .bool true]) (((hsl5.set (show w.heap.size ≠ w.heap.size + 1 by omega) (.int .i64 (n : Int)) (o := 0)).set (show w.heap.size ≠ w.heap.size + 1 by omega) (.int .i64 ((n : Int) + 1)) (o := 1)).set (show w.heap.size ≠ w.heap.size + 1 by omega) (.slice (some ⟨w.heap.size + 1, 0, none⟩) N N) (o := 2)) (((hb5.setCell (p := ⟨w.heap.size, 0, none⟩) (Nat.le_refl _) _).setCell (p := ⟨w.heap.size, 1, none⟩) (Nat.le_refl _) _).setCell (p := ⟨w.heap.size, 2, none⟩) (Nat.le_refl _) _)

set_option maxHeartbeats 4000000 in
theorem spec_NextChannel (w : World) (l : Int) (hl : I64 l) (x : Nat) (hx : x < 4294967296) :
    Calls Try.prog 16 #[.int .i64 l, .float .f32 x] w (RetRd w (out_NextChannel l x).2.2.1.length ((out_NextChannel l x).2.2.1.map (Value.float .f32)) (fun v => .tuple #[.agg #[.int .i64 (out_NextChannel l x).1, .int .i64 (out_NextChannel l x).2.1, v], .bool (out_NextChannel l x).2.2.2])) := by
  obtain ⟨i0, hi0, hz0, hz1, hz2⟩ := info_parts info_Float32S
  obtain ⟨res, hres⟩ : ∃ res, res = out_NextChannel l x := ⟨_, rfl⟩
  rw [← hres]
  obtain ⟨W1, hW1⟩ : ∃ W1, W1 = w.alloc (.cells #[.int .i64 0, .int .i64 0, .slice none 0 0] 25) := ⟨_, rfl⟩
  have hsz : W1.heap.size = w.heap.size + 1 := by rw [hW1]; simp
  have hbw : Below w.heap.size w W1 := by rw [hW1]; go_grown
  have d0 : World.cell? W1 ⟨w.heap.size, 0, none⟩ = some (.int .i64 0) := by rw [hW1]; go_cell
  have d1 : World.cell? W1 ⟨w.heap.size, 1, none⟩ = some (.int .i64 0) := by rw [hW1]; go_cell
  have d2 : World.cell? W1 ⟨w.heap.size, 2, none⟩ = some (.slice none 0 0) := by rw [hW1]; go_cell
  have z0 : World.frozen? W1 ⟨w.heap.size, 0, none⟩ = false := by rw [hW1, World.frozen?_alloc_at]; simp
  have z1 : World.frozen? W1 ⟨w.heap.size, 1, none⟩ = false := by rw [hW1, World.frozen?_alloc_at]; simp
  have z2 : World.frozen? W1 ⟨w.heap.size, 2, none⟩ = false := by rw [hW1, World.frozen?_alloc_at]; simp
  cases hin : inB l 2 8
  · have HR : Hid (res = (0, 0, [], false)) := by show res = _; rw [hres]; unfold out_NextChannel; rw [hin]; rfl
    have HI := Lib.hid hin
    clear hin hres
    go_enter Try.func16, Try.ntmps16
    go_wp2_with fail
    rw [← hW1]
    clear hW1
    go_wp2_with (go_at_call 44; refine (l00In_any _ _ _ _).mono ?_; rw [HI.out]; rintro e w' ⟨rfl, rfl⟩)
    refine bodyPost_ret (v := .tuple #[.agg #[.int .i64 0, .int .i64 0, .slice none 0 0], .bool false]) (by simp [results, Try.results16, go_sem, *]) rfl ?_
    rw [HR.out]
    exact RetSl.rd (RetSl.nul (T := 22) (f := fun v => .tuple #[.agg #[.int .i64 0, .int .i64 0, v], .bool false]) (((hbw.setCell (p := ⟨w.heap.size, 0, none⟩) (Nat.le_refl _) _).setCell (p := ⟨w.heap.size, 1, none⟩) (Nat.le_refl _) _).setCell (p := ⟨w.heap.size, 2, none⟩) (Nat.le_refl _) _))
  · have hb := inB_true hin
    obtain ⟨n, rfl⟩ : ∃ n : Nat, l = n := ⟨l.toNat, by omega⟩
    cases hs : shB x
    · have HR : Hid (res = (0, 0, [], false)) := by show res = _; rw [hres]; unfold out_NextChannel; rw [hin, hs]; rfl
      have HI := Lib.hid hin
      have HS := Lib.hid hs
      clear hin hres hs
      go_enter Try.func16, Try.ntmps16
      go_wp2_with fail
      rw [← hW1]
      clear hW1
      go_wp2_with (first | (go_at_call 44; refine (l00In_any _ _ _ _).mono ?_; rw [HI.out]; rintro e w' ⟨rfl, rfl⟩) | (go_at_call 45; refine (l02Share_any _ _ hx).mono ?_; rw [show decide (x ≤ 1065353216 ∨ x = 2147483648) = false from HS.out]; rintro e w' ⟨rfl, rfl⟩))
      refine bodyPost_ret (v := .tuple #[.agg #[.int .i64 0, .int .i64 0, .slice none 0 0], .bool false]) (by simp [results, Try.results16, go_sem, *]) rfl ?_
      rw [HR.out]
      exact RetSl.rd (RetSl.nul (T := 22) (f := fun v => .tuple #[.agg #[.int .i64 0, .int .i64 0, v], .bool false]) (((hbw.setCell (p := ⟨w.heap.size, 0, none⟩) (Nat.le_refl _) _).setCell (p := ⟨w.heap.size, 1, none⟩) (Nat.le_refl _) _).setCell (p := ⟨w.heap.size, 2, none⟩) (Nat.le_refl _) _))
    · have hR : res = outCh (n : Int) (n : Int) (chA (fNext x n) n n) := by rw [hres]; unfold out_NextChannel; rw [hin, hs, Int.toNat_natCast]; rfl
      have HS := Lib.hid hs
      have HI := Lib.hid hin
      have HRES := Lib.hid hR
      have hsome := sub1_some hs
      have hrun := fun W : World => run_fA (P := Try.prog) (w := W) .sub 22 .f32 _ _ hsome
      have HSU : Hid (fA .sub .f32 1065353216 x = sub1 x) := rfl
      obtain ⟨N, hN⟩ : ∃ N, N = n * n := ⟨_, rfl⟩
      have hN64 : N ≤ 72 := by rw [hN]; exact Nat.le_trans (Nat.mul_le_mul (show n ≤ 8 by omega) (show n ≤ 9 by omega)) (by omega)
      have hNI : (n : Int) * (n : Int) = (N : Int) := by rw [hN]; simp
      have hNW : IntKind.i64.wrap ((n : Int) * (n : Int)) = (N : Int) := by rw [hNI]; exact IntWalk.i64_in _ (by omega)
      have HNN := Lib.hid hN
      clear hin hres hs hR hsome hN
      go_enter Try.func16, Try.ntmps16
      go_wp2_with fail
      rw [← hW1]
      clear hW1
      go_wp2_with (first | (go_at_call 44; refine (l00In_any _ _ _ _).mono ?_; rw [HI.out]; rintro e w' ⟨rfl, rfl⟩) | (go_at_call 45; refine (l02Share_any _ _ hx).mono ?_; rw [show decide (x ≤ 1065353216 ∨ x = 2147483648) = true from HS.out]; rintro e w' ⟨rfl, rfl⟩) | (at_make; refine wpList_make_full _ rfl _ _ 23 rfl W1.heap.size 22 i0 (.float .f32 0) 1 Try.underlying23 hi0 hz0 hz1 .i64 .i64 _ _ N rfl rfl rfl rfl (by rw [hz2]; omega) (by unfold maxLen; omega) (Nat.le_refl _) ?_; intro w2 hown2 hgr2))
      have hb2 : Below W1.heap.size W1 w2 := (Below.refl _ _).grown hgr2 (Nat.le_refl _) (by simp)
      rw [Nat.mul_one, show (Value.cells (.float .f32 0)) = #[.float .f32 0] from rfl, toList_madeCells_one, hsz] at hown2
      obtain ⟨W3, hW3⟩ : ∃ W3, W3 = w2.alloc (.cells #[.int .i64 (n : Int), .int .i64 (n : Int), .slice (some ⟨w.heap.size + 1, 0, none⟩) N N] 25) := ⟨_, rfl⟩
      have hb2' := hb2.size
      rw [hsz] at hb2'
      have hlt2 : w.heap.size + 1 < w2.heap.size := (hown2.lt (w.heap.size + 1) rfl).2
      have hs3 : W3.heap.size = w2.heap.size + 1 := by rw [hW3]; simp
      have hb3 : Below W1.heap.size W1 W3 := by rw [hW3]; exact hb2.alloc hb2.size _
      have hown3 : W3.ownsRow (w.heap.size + 1) 22 1 (.slice (some ⟨w.heap.size + 1, 0, none⟩) N N) N ((fillL (fNext x n) n n 0).map (Value.float .f32)) := by
        rw [hW3]
        have e : (fillL (fNext x n) n n 0).map (Value.float .f32) = List.replicate N (.float .f32 0) := by simp [fillL, chA, HNN.out]
        rw [e]
        exact hown2.alloc _
      have y0 : World.cell? W3 ⟨w2.heap.size, 0, none⟩ = some (.int .i64 (n : Int)) := by rw [hW3]; simp
      have y1 : World.cell? W3 ⟨w2.heap.size, 1, none⟩ = some (.int .i64 (n : Int)) := by rw [hW3]; simp
      have y2 : World.cell? W3 ⟨w2.heap.size, 2, none⟩ = some (.slice (some ⟨w.heap.size + 1, 0, none⟩) N N) := by rw [hW3]; simp
      replace d0 := (hb3.cell (p := ⟨w.heap.size, 0, none⟩) (show w.heap.size < W1.heap.size by omega)).trans d0
      replace d1 := (hb3.cell (p := ⟨w.heap.size, 1, none⟩) (show w.heap.size < W1.heap.size by omega)).trans d1
      replace d2 := (hb3.cell (p := ⟨w.heap.size, 2, none⟩) (show w.heap.size < W1.heap.size by omega)).trans d2
      replace z0 := (hb3.frozen (p := ⟨w.heap.size, 0, none⟩) (show w.heap.size < W1.heap.size by omega)).trans z0
      replace z1 := (hb3.frozen (p := ⟨w.heap.size, 1, none⟩) (show w.heap.size < W1.heap.size by omega)).trans z1
      replace z2 := (hb3.frozen (p := ⟨w.heap.size, 2, none⟩) (show w.heap.size < W1.heap.size by omega)).trans z2
      have HB3 := Lib.hid (hbw.trans (hb3.mono (by omega)))
      rw [← hW3]
      clear hW3 hb2 hb2' hgr2 hown2
      go_loopw [7] (fun q wr => ∃ k : Nat, k ≤ n ∧ q = .int .i64 k ∧ wr.ownsRow (w.heap.size + 1) 22 1 (.slice (some ⟨w.heap.size + 1, 0, none⟩) N N) N ((fillL (fNext x n) n n k).map (Value.float .f32)) ∧ W3.grownBy wr (some (w.heap.size + 1))) (fun q _ => n - (intOf q).toNat)
      case atStart => exact ⟨0, Nat.zero_le _, rfl, hown3, World.grownBy.refl _ _⟩
      case round =>
        clear hown3
        obtain ⟨k, hk, rfl, hown, hg⟩ := hrel
        by_cases hlt : k < n
        · have e2 := cell_gb y2 hg (show w2.heap.size ≠ w.heap.size + 1 by omega)
          obtain ⟨P, hP⟩ : ∃ P, P = k * n := ⟨_, rfl⟩
          obtain ⟨q, hq⟩ : ∃ q, q = ((k + 1) % n) := ⟨_, rfl⟩
          have hqM : q < n := by rw [hq]; first | omega | exact Nat.mod_lt _ (by omega)
          have hkq : k ≠ q := by
            rw [hq]
            first
              | omega
              | (by_cases e : k + 1 = n
                 · rw [e, Nat.mod_self]; omega
                 · rw [Nat.mod_eq_of_lt (by omega)]; omega)
          have hPM : P + n ≤ N := by rw [hP, HNN.out]; have := Nat.mul_le_mul_right n (show k + 1 ≤ n by omega); rw [Nat.add_mul k 1, Nat.one_mul] at this; exact this
          have HSET : Hid (((fillL (fNext x n) n n k).set (P + k) (sub1 x)).set (P + q) x = fillL (fNext x n) n n (k + 1)) := by
            show _ = _
            rw [hP]
            exact fill_step (fNext x n) n n k q (sub1 x) x hlt (by omega) hqM hkq (by rw [hq]; exact fNext_row x n k)
          have HLEN : Hid ((fillL (fNext x n) n n k).length = N) := by show _ = _; rw [fill_length _ _ _ _ hk, HNN.out]
          obtain ⟨p1, hp1⟩ : ∃ p1, p1 = P + k := ⟨_, rfl⟩
          obtain ⟨p2, hp2⟩ : ∃ p2, p2 = P + q := ⟨_, rfl⟩
          rw [← hp1, ← hp2] at HSET
          have i1 : (k : Int) * (n : Int) = (P : Int) := by rw [hP]; simp
          have i2 : IntKind.i64.wrap ((k : Int) * (n : Int)) = (P : Int) := by rw [i1]; exact IntWalk.i64_in _ (by omega)
          have i0 : (q : Int) = (q : Int) := by omega
          have i3 : (P : Int) + (k : Int) = (p1 : Int) := by rw [hp1]; simp
          have i4 : IntKind.i64.wrap ((P : Int) + (k : Int)) = (p1 : Int) := by rw [i3]; exact IntWalk.i64_in _ (by omega)
          have i5 : (P : Int) + (q : Int) = (p2 : Int) := by rw [hp2, i0]; simp
          have i6 : IntKind.i64.wrap ((P : Int) + (q : Int)) = (p2 : Int) := by rw [i5]; exact IntWalk.i64_in _ (by omega)
          have i7 : p1 < N := by omega
          have i8 : p2 < N := by omega
          have i9 : ¬ p1 = p2 := by omega
          have i10 : ¬ p2 = p1 := by omega
          have j1 : (0 : Int) ≤ (p1 : Int) := by omega
          have j2 : (p1 : Int) < (N : Int) := by omega
          have j3 : (0 : Int) ≤ (p2 : Int) := by omega
          have j4 : (p2 : Int) < (N : Int) := by omega
          have hmod : ((k : Int) + 1) % (n : Int) = (((k + 1) % n : Nat) : Int) := by simp
          try rw [← hq] at hmod
          have c1 := hown.cellAt p1 (by omega)
          have c2 := hown.cellAt p2 (by omega)
          obtain ⟨v1, hv1⟩ : ∃ v1, ((fillL (fNext x n) n n k).map (Value.float .f32))[p1]? = some v1 := ⟨_, List.getElem?_eq_getElem (by rw [List.length_map, HLEN.out]; exact i7)⟩
          obtain ⟨v2, hv2⟩ : ∃ v2, ((fillL (fNext x n) n n k).map (Value.float .f32))[p2]? = some v2 := ⟨_, List.getElem?_eq_getElem (by rw [List.length_map, HLEN.out]; exact i8)⟩
          rw [hv1] at c1
          rw [hv2] at c2
          have f1 := hown.frozenAt p1
          have f2 := hown.frozenAt p2
          have HO := Lib.hid hown
          have HGG := Lib.hid hg
          clear hv1 hv2 hown hg hP hp1 hp2 hPM hqM hkq hq i0
          go_wp2
          (go_region)
          go_wp2
          go_roundw
          case rel =>
            have o1 := HO.out.stored p1 (.float .f32 (fA .sub .f32 1065353216 x))
            refine ⟨k + 1, by omega, by go_num, ?_, ?_⟩
            · rw [← HSET.out, List.map_set, List.map_set, ← HSU.out]
              first | exact (o1.1.stored p2 _).1 | exact own_dr (o1.1.stored p2 _).1 | exact ((own_dr o1.1).stored p2 _).1
            · first | exact grownBy_trans (grownBy_trans HGG.out o1.2) (o1.1.stored p2 _).2 | exact grown_dr (grownBy_trans (grownBy_trans HGG.out o1.2) (o1.1.stored p2 _).2) | exact grownBy_trans (grown_dr (grownBy_trans HGG.out o1.2)) ((own_dr o1.1).stored p2 _).2
          case measure => simp [intOf]; omega
        · obtain rfl : n = k := by omega
          have hne0 : w2.heap.size ≠ w.heap.size + 1 := by omega
          have hne1 : w.heap.size ≠ w.heap.size + 1 := by omega
          have e0 := cell_gb y0 hg hne0
          have e1 := cell_gb y1 hg hne0
          have e2 := cell_gb y2 hg hne0
          replace d0 := cell_gb d0 hg hne1
          replace d1 := cell_gb d1 hg hne1
          replace d2 := cell_gb d2 hg hne1
          replace z0 := frozen_gb z0 (show w.heap.size < W3.heap.size by omega) hg hne1
          replace z1 := frozen_gb z1 (show w.heap.size < W3.heap.size by omega) hg hne1
          replace z2 := frozen_gb z2 (show w.heap.size < W3.heap.size by omega) hg hne1
          have hbF : Below w.heap.size w wr := HB3.out.trans ⟨hg.os, hg.tape, hg.output, hg.size, fun i hi => hg.block i (by omega) (fun e => by injection e; omega)⟩
          have hsr := hg.size
          have hfin : fillL (fNext x n) n n n = chA (fNext x n) n n := by unfold fillL; rw [Nat.sub_self, Nat.zero_mul, List.replicate_zero, List.append_nil]
          rw [hfin] at hown
          have HCL : Hid ((chA (fNext x n) n n).length = N) := by show _ = _; rw [chA_length, HNN.out]
          have HF : Hid (∀ y ∈ chA (fNext x n) n n, y < 4294967296) := by
            show ∀ y ∈ _, _
            intro y hy
            obtain ⟨q, k, hq, hk, rfl⟩ := chA_mem hy
            exact fNext_lt HS.out n _ _
          have hsl : SlR wr (.slice (some ⟨w.heap.size + 1, 0, none⟩) N N) ((chA (fNext x n) n n).map (Value.float .f32)) := SlR.own hown
          have hmi : I64 (n : Int) := by unfold I64; omega
          generalize chA (fNext x n) n n = ys at *
          clear y0 y1 y2 hfin hown
          cases hv : validCh (n : Int) (n : Int) ys
          · have HV := Lib.hid hv
            have HR : Hid (res = (0, 0, [], false)) := by show res = _; rw [HRES.out, outCh_no hv]
            clear hv
            go_wp2_with (go_at_call 46; refine (l03Give_no (n : Int) (n : Int) (i64_8 (by omega)) hmi _ ys _ hsl HF.out HV.out).mono ?_; rintro e w4 ⟨rfl, hb4⟩; have d0 := cell_step d0 hb4; have d1 := cell_step d1 hb4; have d2 := cell_step d2 hb4; have z0 := (hb4.frozen (p := ⟨w.heap.size, 0, none⟩) (show w.heap.size < wr.heap.size by omega)).trans z0; have z1 := (hb4.frozen (p := ⟨w.heap.size, 1, none⟩) (show w.heap.size < wr.heap.size by omega)).trans z1; have z2 := (hb4.frozen (p := ⟨w.heap.size, 2, none⟩) (show w.heap.size < wr.heap.size by omega)).trans z2; have hb5 := hbF.trans (hb4.mono hbF.size))
            refine bodyPost_ret (v := .tuple #[.agg #[.int .i64 0, .int .i64 0, .slice none 0 0], .bool false]) (by simp [results, Try.results16, go_sem, *]) rfl ?_
            rw [HR.out]
            exact RetSl.rd (RetSl.nul (T := 22) (f := fun v => .tuple #[.agg #[.int .i64 0, .int .i64 0, v], .bool false]) (((hb5.setCell (p := ⟨w.heap.size, 0, none⟩) (Nat.le_refl _) _).setCell (p := ⟨w.heap.size, 1, none⟩) (Nat.le_refl _) _).setCell (p := ⟨w.heap.size, 2, none⟩) (Nat.le_refl _) _))
          · have HV := Lib.hid hv
            have HR : Hid (res = ((n : Int), (n : Int), ys, true)) := by show res = _; rw [HRES.out, outCh_yes hv]
            clear hv
            go_wp2_with (go_at_call 46; refine (l03Give_yes (n : Int) (n : Int) (i64_8 (by omega)) hmi _ ys _ hsl HF.out HV.out).mono ?_; rintro e w4 ⟨rfl, hb4⟩; have d0 := cell_step d0 hb4; have d1 := cell_step d1 hb4; have d2 := cell_step d2 hb4; have z0 := (hb4.frozen (p := ⟨w.heap.size, 0, none⟩) (show w.heap.size < wr.heap.size by omega)).trans z0; have z1 := (hb4.frozen (p := ⟨w.heap.size, 1, none⟩) (show w.heap.size < wr.heap.size by omega)).trans z1; have z2 := (hb4.frozen (p := ⟨w.heap.size, 2, none⟩) (show w.heap.size < wr.heap.size by omega)).trans z2; have hb5 := hbF.trans (hb4.mono hbF.size))
            refine bodyPost_ret (v := .tuple #[.agg #[.int .i64 (n : Int), .int .i64 (n : Int), .slice (some ⟨w.heap.size + 1, 0, none⟩) N N], .bool true]) (by simp [results, Try.results16, go_sem, *]) rfl ?_
            rw [HR.out]
            dsimp only
            rw [HCL.out]
            have hsl5 : SlR _ _ _ := hsl.below hb4
            exact RetRd.mk (f := fun v => .tuple #[.agg #[.int .i64 (n : Int), .int .i64 (n : Int), v], .bool true]) (((hsl5.set (show w.heap.size ≠ w.heap.size + 1 by omega) (.int .i64 (n : Int)) (o := 0)).set (show w.heap.size ≠ w.heap.size + 1 by omega) (.int .i64 (n : Int)) (o := 1)).set (show w.heap.size ≠ w.heap.size + 1 by omega) (.slice (some ⟨w.heap.size + 1, 0, none⟩) N N) (o := 2)) (((hb5.setCell (p := ⟨w.heap.size, 0, none⟩) (Nat.le_refl _) _).setCell (p := ⟨w.heap.size, 1, none⟩) (Nat.le_refl _) _).setCell (p := ⟨w.heap.size, 2, none⟩) (Nat.le_refl _) _)

end Go.Proofs.Ytlahmdnlamifnaa
