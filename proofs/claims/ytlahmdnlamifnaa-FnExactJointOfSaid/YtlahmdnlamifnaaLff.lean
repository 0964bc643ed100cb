/- Channels that flip letters: the reference's contract. -/
import Derived.Test.YtlahmdnlamifnaaLfs
namespace Go.Proofs.Ytlahmdnlamifnaa
set_option linter.unusedSimpArgs false
set_option linter.unusedVariables false
open Go.RowKit

/-- What an append to the struct's slice gave, in a plain region. -/
theorem StB.app {W w1 : World} {g : Nat} {i j : Int} {a : Option Addr} {c : Nat} {ys : List Nat} {y : Nat} {v1 : Value} (h : StB W g i j a c ys) (ho : w1.ownsRow (g + 1) 22 1 v1 (ys.length + 1) (ys.map (Value.float .f32) ++ [.float .f32 y])) (hg : W.grownBy w1 (Value.slice a ys.length c).ownBlock) :
    ∃ g2 c2, v1 = .slice (some ⟨g2, 0, none⟩) (ys.length + 1) c2 ∧ w1.cell? ⟨g, 2, none⟩ = some (.slice a ys.length c) ∧ w1.frozen? ⟨g, 2, none⟩ = false := by
  obtain ⟨a1, c1, rfl⟩ := ownsRow_shape ho
  obtain ⟨g2, rfl, -, -⟩ := own_some ho (by omega)
  have hu : ∀ k, (Value.slice a ys.length c).ownBlock = some k → k ≠ g := fun k hk => by have := own_grown_lt h.2.2.2.2 k hk; omega
  exact ⟨g2, c1, rfl, cell_grown h.2.2.1 hg hu, (World.frozen?_of_block (a := ⟨g, 2, none⟩) (hg.block g h.lt (fun e => hu g e.symm rfl))).trans h.2.2.2.1⟩

set_option maxHeartbeats 4000000 in
theorem spec_FlipChannel (w : World) (l : Int) (hl : I64 l) (x : Nat) (hx : x < 4294967296) :
    Calls Try.prog 18 #[.int .i64 l, .float .f32 x] w (RetRd w (out_FlipChannel l x).2.2.1.length ((out_FlipChannel l x).2.2.1.map (Value.float .f32)) (fun v => .tuple #[.agg #[.int .i64 (out_FlipChannel l x).1, .int .i64 (out_FlipChannel l x).2.1, v], .bool (out_FlipChannel l x).2.2.2])) := by
  obtain ⟨i0, hi0, hz0, hz1, hz2⟩ := info_parts info_Float32S
  obtain ⟨res, hres⟩ : ∃ res, res = out_FlipChannel l x := ⟨_, rfl⟩
  rw [← hres]
  obtain ⟨W1, hW1⟩ : ∃ W1, W1 = w.alloc (.cells #[.int .i64 0, .int .i64 0, .slice none 0 0] 25) := ⟨_, rfl⟩
  have hsz : W1.heap.size = w.heap.size + 1 := by rw [hW1]; simp
  have hbw : Below w.heap.size w W1 := by rw [hW1]; go_grown
  have d0 : World.cell? W1 ⟨w.heap.size, 0, none⟩ = some (.int .i64 0) := by rw [hW1]; go_cell
  have d1 : World.cell? W1 ⟨w.heap.size, 1, none⟩ = some (.int .i64 0) := by rw [hW1]; go_cell
  have d2 : World.cell? W1 ⟨w.heap.size, 2, none⟩ = some (.slice none 0 0) := by rw [hW1]; go_cell
  have z0 : World.frozen? W1 ⟨w.heap.size, 0, none⟩ = false := by rw [hW1, World.frozen?_alloc_at]; simp
  have z1 : World.frozen? W1 ⟨w.heap.size, 1, none⟩ = false := by rw [hW1, World.frozen?_alloc_at]; simp
  have z2 : World.frozen? W1 ⟨w.heap.size, 2, none⟩ = false := by rw [hW1, World.frozen?_alloc_at]; simp
  cases hin : inB l 2 8
  · have HR : Hid (res = (0, 0, [], false)) := by show res = _; rw [hres]; unfold out_FlipChannel; rw [hin]; rfl
    have HI := Lib.hid hin
    clear hin hres
    go_enter Try.func18, Try.ntmps18
    go_wp2_with fail
    rw [← hW1]
    clear hW1
    go_wp2_with (go_at_call 44; refine (l00In_any _ _ _ _).mono ?_; rw [HI.out]; rintro e w' ⟨rfl, rfl⟩)
    refine bodyPost_ret (v := .tuple #[.agg #[.int .i64 0, .int .i64 0, .slice none 0 0], .bool false]) (by simp [results, Try.results18, go_sem, *]) rfl ?_
    rw [HR.out]
    exact RetSl.rd (RetSl.nul (T := 22) (f := fun v => .tuple #[.agg #[.int .i64 0, .int .i64 0, v], .bool false]) (((hbw.setCell (p := ⟨w.heap.size, 0, none⟩) (Nat.le_refl _) _).setCell (p := ⟨w.heap.size, 1, none⟩) (Nat.le_refl _) _).setCell (p := ⟨w.heap.size, 2, none⟩) (Nat.le_refl _) _))
  · have hb := inB_true hin
    obtain ⟨n, rfl⟩ : ∃ n : Nat, l = n := ⟨l.toNat, by omega⟩
    cases hs : shB x
    · have HR : Hid (res = (0, 0, [], false)) := by show res = _; rw [hres]; unfold out_FlipChannel; rw [hin, hs]; rfl
      have HI := Lib.hid hin
      have HS := Lib.hid hs
      clear hin hres hs
      go_enter Try.func18, Try.ntmps18
      go_wp2_with fail
      rw [← hW1]
      clear hW1
      go_wp2_with (first | (go_at_call 44; refine (l00In_any _ _ _ _).mono ?_; rw [HI.out]; rintro e w' ⟨rfl, rfl⟩) | (go_at_call 45; refine (l02Share_any _ _ hx).mono ?_; rw [show decide (x ≤ 1065353216 ∨ x = 2147483648) = false from HS.out]; rintro e w' ⟨rfl, rfl⟩))
      refine bodyPost_ret (v := .tuple #[.agg #[.int .i64 0, .int .i64 0, .slice none 0 0], .bool false]) (by simp [results, Try.results18, go_sem, *]) rfl ?_
      rw [HR.out]
      exact RetSl.rd (RetSl.nul (T := 22) (f := fun v => .tuple #[.agg #[.int .i64 0, .int .i64 0, v], .bool false]) (((hbw.setCell (p := ⟨w.heap.size, 0, none⟩) (Nat.le_refl _) _).setCell (p := ⟨w.heap.size, 1, none⟩) (Nat.le_refl _) _).setCell (p := ⟨w.heap.size, 2, none⟩) (Nat.le_refl _) _))
    · have hR : res = outCh (n : Int) (n : Int) (chA (fFlip x n) n n) := by rw [hres]; unfold out_FlipChannel; rw [hin, hs, Int.toNat_natCast]; rfl
      have HS := Lib.hid hs
      have HI := Lib.hid hin
      have HRES := Lib.hid hR
      have hsome := sub1_some hs
      have hrun := fun W : World => run_fA (P := Try.prog) (w := W) .sub 22 .f32 _ _ hsome
      have hp := part_some (n := n) hs (by omega) (by omega)
      obtain ⟨p, hpp⟩ : ∃ p : Nat, p = n - 1 := ⟨_, rfl⟩
      have hp1 : (n : Int) - 1 = (p : Int) := by omega
      have HP : Hid (fA .quo .f32 x (floatOfInt .f32 (p : Int)) = fA .quo .f32 x (floatOfInt .f32 ((n - 1 : Nat) : Int))) := by show _ = _; rw [hpp]
      rw [← hpp] at hp
      have hrun2 := fun W : World => run_fA (P := Try.prog) (w := W) .quo 22 .f32 _ _ hp
      have HSU : Hid (fA .sub .f32 1065353216 x = sub1 x) := rfl
      clear hin hres hs hR hsome hp hpp
      go_enter Try.func18, Try.ntmps18
      go_wp2_with fail
      rw [← hW1]
      clear hW1
      go_wp2_with (first | (go_at_call 44; refine (l00In_any _ _ _ _).mono ?_; rw [HI.out]; rintro e w' ⟨rfl, rfl⟩) | (go_at_call 45; refine (l02Share_any _ _ hx).mono ?_; rw [show decide (x ≤ 1065353216 ∨ x = 2147483648) = true from HS.out]; rintro e w' ⟨rfl, rfl⟩))
      obtain ⟨W2, hW2⟩ : ∃ W2, W2 = W1.alloc (.cells #[.int .i64 (n : Int), .int .i64 (n : Int), .slice none 0 0] 25) := ⟨_, rfl⟩
      have hs2 : W2.heap.size = w.heap.size + 2 := by rw [hW2]; simp [hsz]
      have hb2 : Below W1.heap.size W1 W2 := by rw [hW2]; go_grown
      have hS0 : StB W2 (w.heap.size + 1) n n none 0 (chA (fFlip x n) n 0) := by
        refine ⟨?_, ?_, ?_, ?_, rfl, .inl ⟨rfl, rfl⟩⟩
        · rw [hW2, ← hsz]; simp
        · rw [hW2, ← hsz]; simp
        · show World.cell? W2 _ = some (.slice none 0 0)
          rw [hW2, ← hsz]; simp
        · rw [hW2, ← hsz, World.frozen?_alloc_at]; simp
      replace d0 := (hb2.cell (p := ⟨w.heap.size, 0, none⟩) (show w.heap.size < W1.heap.size by omega)).trans d0
      replace d1 := (hb2.cell (p := ⟨w.heap.size, 1, none⟩) (show w.heap.size < W1.heap.size by omega)).trans d1
      replace d2 := (hb2.cell (p := ⟨w.heap.size, 2, none⟩) (show w.heap.size < W1.heap.size by omega)).trans d2
      replace z0 := (hb2.frozen (p := ⟨w.heap.size, 0, none⟩) (show w.heap.size < W1.heap.size by omega)).trans z0
      replace z1 := (hb2.frozen (p := ⟨w.heap.size, 1, none⟩) (show w.heap.size < W1.heap.size by omega)).trans z1
      replace z2 := (hb2.frozen (p := ⟨w.heap.size, 2, none⟩) (show w.heap.size < W1.heap.size by omega)).trans z2
      have HB2 := Lib.hid (hbw.trans (hb2.mono (by omega)))
      first | rw [← hW2] | (simp only [hsz] at hW2; rw [← hW2])
      clear hW2 hb2
      go_loopw [7] (fun q wr => ∃ k : Nat, k ≤ n ∧ q = .int .i64 k ∧ (∃ ad cd, StB wr (w.heap.size + 1) n n ad cd (chA (fFlip x n) n k)) ∧ Below (w.heap.size + 1) W2 wr) (fun q _ => n - (intOf q).toNat)
      case atStart => exact ⟨0, Nat.zero_le _, rfl, ⟨none, 0, hS0⟩, Below.refl _ _⟩
      case round =>
        clear hS0
        obtain ⟨k, hk, rfl, ⟨ad, cd, hS⟩, hb⟩ := hrel
        by_cases hlt : k < n
        · go_wp2
          obtain ⟨wo, hwo⟩ : ∃ wo : World, wo = wr := ⟨_, rfl⟩
          rw [← hwo] at hS hb ⊢
          clear hwo wr
          go_loopw [8, 9] (fun q _ wr => ∃ r : Nat, r ≤ n ∧ q = .int .i64 r ∧ (∃ ad cd, StB wr (w.heap.size + 1) n n ad cd (chA (fFlip x n) n k ++ chR (fFlip x n) k r)) ∧ Below (w.heap.size + 1) W2 wr) (fun q _ _ => n - (intOf q).toNat)
          case atStart => exact ⟨0, Nat.zero_le _, rfl, ⟨ad, cd, by simpa [chR] using hS⟩, hb⟩
          case round =>
            clear hS hb
            obtain ⟨r, hr, rfl, ⟨ad, cd, hS⟩, hb⟩ := hrel
            by_cases hrlt : r < n
            · have HCS := Lib.hid (chR_succ (fFlip x n) k r)
              obtain ⟨zs, hzs⟩ : ∃ zs, zs = chA (fFlip x n) n k ++ chR (fFlip x n) k r := ⟨_, rfl⟩
              rw [← hzs] at hS
              have HZ := Lib.hid hzs
              have hzl : zs.length ≤ 4096 := by rw [HZ.out, List.length_append, chA_length, chR_length]; have : k * n ≤ 8 * 8 := Nat.mul_le_mul (by omega) (by omega); omega
              clear hzs
              have hlS := hS.lt
              have f2 := hS.2.2.1
              have HH := Lib.hid hS
              have hbs := hb.size
              rw [hs2] at hbs
              clear hS
              by_cases hkr : k = r
              · have t1 := ieq_true (show (k : Int) = (r : Int) by omega)
                have HY : Hid (fFlip x n k r = sub1 x) := if_pos hkr
                clear hkr
                obtain ⟨y, hy⟩ : ∃ y, y = fA .sub .f32 1065353216 x := ⟨_, rfl⟩
                have HYY := Lib.hid hy
                rw [← hy] at hrun
                clear hy
                have hSa : StB (wr.alloc (.cells #[.float .f32 y] 22)) (w.heap.size + 1) n n ad cd zs := HH.out.below (by go_grown)
                go_wp2_with (at_builtin; refine wpList_append_own _ rfl _ _ 23 rfl (w.heap.size + 1 + 1) 22 i0 (.float .f32 0) 1 4 Try.underlying23 hi0 hz0 hz1 hz2 rfl (by decide) _ _ _ rfl hSa.2.2.2.2 ⟨wr.heap.size, 0, none⟩ 1 1 [.float .f32 y] rfl rfl (cell_one_new _ _ _) (one_oneCell rfl) (by unfold maxLen; omega) (by omega) (by simp only [World.size_alloc]; omega) ?_; intro v1 w1 hown1 hgx _; obtain ⟨g2, c2, rfl, k3, k4⟩ := StB.app hSa hown1 hgx)
                go_roundw
                case rel => exact ⟨r + 1, by omega, by go_num, ⟨some ⟨g2, 0, none⟩, c2, by rw [HCS.out, ← List.append_assoc, ← HZ.out, HY.out, ← HSU.out, ← HYY.out]; exact StB.push hSa hgx hown1⟩, push_below (hb.alloc (by omega) _) hSa (by omega) hgx⟩
                case measure => simp [intOf]; omega
              · have t1 := ieq_false (show ¬ (k : Int) = (r : Int) by omega)
                have HY : Hid (fFlip x n k r = fA .quo .f32 x (floatOfInt .f32 ((n - 1 : Nat) : Int))) := if_neg hkr
                clear hkr
                obtain ⟨y, hy⟩ : ∃ y, y = fA .quo .f32 x (floatOfInt .f32 (p : Int)) := ⟨_, rfl⟩
                have HYY := Lib.hid hy
                rw [← hy] at hrun2
                clear hy
                have hSa : StB (wr.alloc (.cells #[.float .f32 y] 22)) (w.heap.size + 1) n n ad cd zs := HH.out.below (by go_grown)
                go_wp2_with (at_builtin; refine wpList_append_own _ rfl _ _ 23 rfl (w.heap.size + 1 + 1) 22 i0 (.float .f32 0) 1 4 Try.underlying23 hi0 hz0 hz1 hz2 rfl (by decide) _ _ _ rfl hSa.2.2.2.2 ⟨wr.heap.size, 0, none⟩ 1 1 [.float .f32 y] rfl rfl (cell_one_new _ _ _) (one_oneCell rfl) (by unfold maxLen; omega) (by omega) (by simp only [World.size_alloc]; omega) ?_; intro v1 w1 hown1 hgx _; obtain ⟨g2, c2, rfl, k3, k4⟩ := StB.app hSa hown1 hgx)
                go_roundw
                case rel => exact ⟨r + 1, by omega, by go_num, ⟨some ⟨g2, 0, none⟩, c2, by rw [HCS.out, ← List.append_assoc, ← HZ.out, HY.out, ← HP.out, ← HYY.out]; exact StB.push hSa hgx hown1⟩, push_below (hb.alloc (by omega) _) hSa (by omega) hgx⟩
                case measure => simp [intOf]; omega
            · obtain rfl : n = r := by omega
              go_wp2
              go_roundw
              case rel => exact ⟨k + 1, by omega, by go_num, ⟨ad, cd, by rw [chA_succ]; exact hS⟩, hb⟩
              case measure => simp [intOf]; omega
        · obtain rfl : n = k := by omega
          replace d0 := (hb.cell (p := ⟨w.heap.size, 0, none⟩) (show w.heap.size < w.heap.size + 1 by omega)).trans d0
          replace d1 := (hb.cell (p := ⟨w.heap.size, 1, none⟩) (show w.heap.size < w.heap.size + 1 by omega)).trans d1
          replace d2 := (hb.cell (p := ⟨w.heap.size, 2, none⟩) (show w.heap.size < w.heap.size + 1 by omega)).trans d2
          replace z0 := (hb.frozen (p := ⟨w.heap.size, 0, none⟩) (show w.heap.size < w.heap.size + 1 by omega)).trans z0
          replace z1 := (hb.frozen (p := ⟨w.heap.size, 1, none⟩) (show w.heap.size < w.heap.size + 1 by omega)).trans z1
          replace z2 := (hb.frozen (p := ⟨w.heap.size, 2, none⟩) (show w.heap.size < w.heap.size + 1 by omega)).trans z2
          have hbF : Below w.heap.size w wr := HB2.out.trans (hb.mono (by omega))
          have hsr := hb.size
          rw [hs2] at hsr
          have hlS := hS.lt
          obtain ⟨s0, s1, s2, s3, s4⟩ := hS
          have HF : Hid (∀ y ∈ chA (fFlip x n) n n, y < 4294967296) := by
            show ∀ y ∈ _, _
            intro y hy
            obtain ⟨q, k, hq, hk, rfl⟩ := chA_mem hy
            exact fFlip_lt HS.out (by omega) (by omega) _ _
          generalize chA (fFlip x n) n n = ys at *
          cases hv : validCh (n : Int) (n : Int) ys
          · have HV := Lib.hid hv
            have HR : Hid (res = (0, 0, [], false)) := by show res = _; rw [HRES.out, outCh_no hv]
            clear hv
            go_wp2_with (go_at_call 46; refine (l03Give_no (n : Int) (n : Int) (i64_8 (by omega)) (i64_8 (by omega)) _ ys _ (SlR.own s4) HF.out HV.out).mono ?_; rintro e w4 ⟨rfl, hb4⟩; have d0 := cell_step d0 hb4; have d1 := cell_step d1 hb4; have d2 := cell_step d2 hb4; have z0 := (hb4.frozen (p := ⟨w.heap.size, 0, none⟩) (show w.heap.size < wr.heap.size by omega)).trans z0; have z1 := (hb4.frozen (p := ⟨w.heap.size, 1, none⟩) (show w.heap.size < wr.heap.size by omega)).trans z1; have z2 := (hb4.frozen (p := ⟨w.heap.size, 2, none⟩) (show w.heap.size < wr.heap.size by omega)).trans z2; have hb5 := hbF.trans (hb4.mono hbF.size))
            refine bodyPost_ret (v := .tuple #[.agg #[.int .i64 0, .int .i64 0, .slice none 0 0], .bool false]) (by simp [results, Try.results18, go_sem, *]) rfl ?_
            rw [HR.out]
            exact RetSl.rd (RetSl.nul (T := 22) (f := fun v => .tuple #[.agg #[.int .i64 0, .int .i64 0, v], .bool false]) (((hb5.setCell (p := ⟨w.heap.size, 0, none⟩) (Nat.le_refl _) _).setCell (p := ⟨w.heap.size, 1, none⟩) (Nat.le_refl _) _).setCell (p := ⟨w.heap.size, 2, none⟩) (Nat.le_refl _) _))
          · have HV := Lib.hid hv
            have HR : Hid (res = ((n : Int), (n : Int), ys, true)) := by show res = _; rw [HRES.out, outCh_yes hv]
            clear hv
            go_wp2_with (go_at_call 46; refine (l03Give_yes (n : Int) (n : Int) (i64_8 (by omega)) (i64_8 (by omega)) _ ys _ (SlR.own s4) HF.out HV.out).mono ?_; rintro e w4 ⟨rfl, hb4⟩; have d0 := cell_step d0 hb4; have d1 := cell_step d1 hb4; have d2 := cell_step d2 hb4; have z0 := (hb4.frozen (p := ⟨w.heap.size, 0, none⟩) (show w.heap.size < wr.heap.size by omega)).trans z0; have z1 := (hb4.frozen (p := ⟨w.heap.size, 1, none⟩) (show w.heap.size < wr.heap.size by omega)).trans z1; have z2 := (hb4.frozen (p := ⟨w.heap.size, 2, none⟩) (show w.heap.size < wr.heap.size by omega)).trans z2; have hb5 := hbF.trans (hb4.mono hbF.size); have s5 := ownsRow_below s4 hb4)
            refine bodyPost_ret (v := .tuple #[.agg #[.int .i64 (n : Int), .int .i64 (n : Int), .slice ad ys.length cd], .bool true]) (by simp [results, Try.results18, go_sem, *]) rfl ?_
            rw [HR.out]
            dsimp only
            have o1 := ownsRow_setCell_below (a := ⟨w.heap.size, 0, none⟩) s5 (show w.heap.size < w.heap.size + 1 + 1 by omega) (.int .i64 (n : Int))
            have o2 := ownsRow_setCell_below (a := ⟨w.heap.size, 1, none⟩) o1 (show w.heap.size < w.heap.size + 1 + 1 by omega) (.int .i64 (n : Int))
            have o3 := ownsRow_setCell_below (a := ⟨w.heap.size, 2, none⟩) o2 (show w.heap.size < w.heap.size + 1 + 1 by omega) (.slice ad ys.length cd)
            exact RetRd.mk (f := fun v => .tuple #[.agg #[.int .i64 (n : Int), .int .i64 (n : Int), v], .bool true]) (SlR.own o3) (((hb5.setCell (p := ⟨w.heap.size, 0, none⟩) (Nat.le_refl _) _).setCell (p := ⟨w.heap.size, 1, none⟩) (Nat.le_refl _) _).setCell (p := ⟨w.heap.size, 2, none⟩) (Nat.le_refl _) _)

end Go.Proofs.Ytlahmdnlamifnaa
