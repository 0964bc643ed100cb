/- The table of two rows that are alone (JoinRows). -/
import Derived.Test.YtmocfnpbofeiiaaMR8T
import Derived.Test.YtmocfnpbofeiiaaMStb
import Derived.Test.YtmocfnpbofeiiaaMLff
namespace Go.Proofs.Ytmocfnpbofeiiaa
set_option linter.unusedSimpArgs false
set_option linter.unusedVariables false
open Go.RowKit
open Ieee
def kRow (xs : List Nat) (y c : Nat) : List Nat := (List.range c).map (fun k => fA .mul .f32 y (xs[k]?.getD 0))
def kOf (rs xs : List Nat) (m r : Nat) : List Nat := (List.range r).flatMap (fun q => kRow xs (rs[q]?.getD 0) m)
theorem kRow_succ (xs : List Nat) (y c : Nat) : kRow xs y (c + 1) = kRow xs y c ++ [fA .mul .f32 y (xs[c]?.getD 0)] := by simp [kRow, List.range_succ]
theorem kRow_length (xs : List Nat) (y c : Nat) : (kRow xs y c).length = c := by simp [kRow]
theorem kOf_succ (rs xs : List Nat) (m r : Nat) : kOf rs xs m (r + 1) = kOf rs xs m r ++ kRow xs (rs[r]?.getD 0) m := by simp [kOf, List.range_succ]
theorem kOf_length (rs xs : List Nat) (m r : Nat) : (kOf rs xs m r).length = r * m := by
  induction r with
  | zero => simp [kOf]
  | succ k ih => rw [kOf_succ, List.length_append, ih, kRow_length, Nat.add_mul, Nat.one_mul]
theorem kOf_at (rs xs : List Nat) (m : Nat) : ∀ t i k : Nat, i < t → k < m → (kOf rs xs m t)[i * m + k]?.getD 0 = fA .mul .f32 (rs[i]?.getD 0) (xs[k]?.getD 0) := by
  intro t
  induction t with
  | zero => intro i k hi; omega
  | succ t ih =>
    intro i k hi hk
    rw [kOf_succ]
    by_cases h : i = t
    · subst h
      rw [List.getElem?_append_right (by rw [kOf_length]; omega), kOf_length, Nat.add_sub_cancel_left]
      unfold kRow
      rw [List.getElem?_map, List.getElem?_range hk]
      rfl
    · rw [List.getElem?_append_left (by
        rw [kOf_length]
        have : (i + 1) * m ≤ t * m := Nat.mul_le_mul_right m (by omega)
        rw [Nat.add_mul, Nat.one_mul] at this
        omega)]
      exact ih i k (by omega) hk
/-- Products of the chances of two rows of counts. -/
theorem Cn.mul {cs ds : List Nat} {a m : Nat} (h : Cn cs a) (k : Cn ds m) (a1 : 1 ≤ a) (a2 : a ≤ 8) (m1 : 1 ≤ m) (m2 : m ≤ 8) {i j : Nat} (hi : i < a) (hj : j < m) : (floatBits .mul .f32 ((rowK cs)[i]?.getD 0) ((rowK ds)[j]?.getD 0)).isSome = true ∧ Rq (1 / 2000000) (fA .mul .f32 ((rowK cs)[i]?.getD 0) ((rowK ds)[j]?.getD 0)) (psC cs i * psC ds j) := by
  have R := h.rw1 a1 (by omega)
  have S := k.rw1 m1 (by omega)
  have r1 := R.le1 hi
  have s1 := S.le1 hj
  have hm := Rat.mul_le_mul_of_nonneg_right r1.2 s1.1
  have hr := h.rr a1 a2 hi
  have hs := k.rr m1 m2 hj
  refine rq_mul (R.el i hi) (S.el j hj) (fun h0 => ?_) (by grind) (by decide +kernel) (by decide +kernel)
  have e1 : psC cs i ≠ 0 := by rintro e; rw [e] at h0; exact h0 (Rat.zero_mul _)
  have e2 : psC ds j ≠ 0 := by rintro e; rw [e] at h0; exact h0 (Rat.mul_zero _)
  have f1 : 1 / 100 ≤ psC cs i := by rcases hr.2.1 with e | e
                                     · exact absurd e e1
                                     · exact e
  have f2 : 1 / 100 ≤ psC ds j := by rcases hs.2.1 with e | e
                                     · exact absurd e e2
                                     · exact e
  have g1 := Rat.mul_le_mul_of_nonneg_right f1 s1.1
  have g2 := Rat.mul_le_mul_of_nonneg_left f2 (show (0 : Rat) ≤ 1 / 100 by decide +kernel)
  grind
theorem Cn.join {cs ds : List Nat} {a m : Nat} (h : Cn cs a) (k : Cn ds m) (a1 : 1 ≤ a) (a2 : a ≤ 8) (m1 : 1 ≤ m) (m2 : m ≤ 8) : Tb (1 / 2000000) (kOf (rowK cs) (rowK ds) m a) a m (fun i j => psC cs i * psC ds j) := by
  refine ⟨kOf_length _ _ _ _, a1, a2, m1, m2, fun i hi j hj => ?_, ?_⟩
  · rw [kOf_at _ _ _ _ _ _ hi hj]
    exact (h.mul k a1 a2 m1 m2 hi hj).2
  · unfold sm2
    rw [show smN (fun i => smN (fun j => psC cs i * psC ds j) m) a = smN (fun i => smN (psC ds) m * psC cs i) a from smN_eq a fun i _ => by rw [smN_mul, Rat.mul_comm], smN_mul, k.ps_one m1, h.ps_one a1, Rat.mul_one]

set_option maxRecDepth 4000 in
set_option maxHeartbeats 4000000 in
theorem JoinRows_any (cs ds : List Nat) (a m : Nat) (h : Cn cs a) (k : Cn ds m) (a1 : 1 ≤ a) (a2 : a ≤ 8) (m1 : 1 ≤ m) (m2 : m ≤ 8) (w : World) (u v : Value) (hu : SlR w u ((rowK cs).map (Value.float .f32))) (hv : SlR w v ((rowK ds).map (Value.float .f32))) :
    Calls Try.prog 37 #[u, v] w fun e w' => (∃ t, e = .returned (.tuple #[.agg #[.int .i64 (a : Int), .int .i64 (m : Int), t], .bool true]) ∧ SlR w' t ((kOf (rowK cs) (rowK ds) m a).map (Value.float .f32))) ∧ Below w.heap.size w w' := by
  obtain ⟨i0, hi0, hz0, hz1, hz2⟩ := info_parts info_Float32S
  have T := h.join k a1 a2 m1 m2
  have HVV := Lib.hid (T.valid (by decide +kernel) (by decide +kernel))
  have HF := Lib.hid T.flat.lt32
  have HRA := Lib.hid (h.row a1 a2)
  have HRB := Lib.hid (k.row m1 m2)
  have HLA := Lib.hid (h.lt a1 a2)
  have HLB := Lib.hid (k.lt m1 m2)
  have HMU : Hid (∀ i j, i < a → j < m → (floatBits .mul .f32 ((rowK cs)[i]?.getD 0) ((rowK ds)[j]?.getD 0)).isSome = true) := Lib.hid fun i j hi hj => (h.mul k a1 a2 m1 m2 hi hj).1
  have hlc : (rowK cs).length = a := by rw [rowK_len, h.len]
  have hld : (rowK ds).length = m := by rw [rowK_len, k.len]
  clear T h k
  generalize rowK cs = rs at *
  generalize rowK ds = xs at *
  obtain ⟨W1, hW1⟩ : ∃ W1, W1 = w.alloc (.cells #[.int .i64 0, .int .i64 0, .slice none 0 0] 47) := ⟨_, rfl⟩
  have hsz : W1.heap.size = w.heap.size + 1 := by rw [hW1]; simp
  have hbw : Below w.heap.size w W1 := by rw [hW1]; go_grown
  have d0 : World.cell? W1 ⟨w.heap.size, 0, none⟩ = some (.int .i64 0) := by rw [hW1]; go_cell
  have d1 : World.cell? W1 ⟨w.heap.size, 1, none⟩ = some (.int .i64 0) := by rw [hW1]; go_cell
  have d2 : World.cell? W1 ⟨w.heap.size, 2, none⟩ = some (.slice none 0 0) := by rw [hW1]; go_cell
  have z0 : World.frozen? W1 ⟨w.heap.size, 0, none⟩ = false := by rw [hW1, World.frozen?_alloc_at]; simp
  have z1 : World.frozen? W1 ⟨w.heap.size, 1, none⟩ = false := by rw [hW1, World.frozen?_alloc_at]; simp
  have z2 : World.frozen? W1 ⟨w.heap.size, 2, none⟩ = false := by rw [hW1, World.frozen?_alloc_at]; simp
  have KEEP : Hid (∀ W, Below W1.heap.size W1 W → (W.cell? ⟨w.heap.size, 0, none⟩ = some (.int .i64 0) ∧ W.cell? ⟨w.heap.size, 1, none⟩ = some (.int .i64 0) ∧ W.cell? ⟨w.heap.size, 2, none⟩ = some (.slice none 0 0)) ∧ W.frozen? ⟨w.heap.size, 0, none⟩ = false ∧ W.frozen? ⟨w.heap.size, 1, none⟩ = false ∧ W.frozen? ⟨w.heap.size, 2, none⟩ = false) := Lib.hid fun W hg => ⟨⟨cell_step d0 hg, cell_step d1 hg, cell_step d2 hg⟩, (hg.frozen (p := ⟨w.heap.size, 0, none⟩) (by show w.heap.size < _; omega)).trans z0, (hg.frozen (p := ⟨w.heap.size, 1, none⟩) (by show w.heap.size < _; omega)).trans z1, (hg.frozen (p := ⟨w.heap.size, 2, none⟩) (by show w.heap.size < _; omega)).trans z2⟩
  have hu1 := hu.below hbw
  have hv1 := hv.below hbw
  obtain ⟨rb, ro, rc, rfl, _, _, rcell⟩ := sl_cells hu1 hlc a1
  obtain ⟨xb, xo, xc, rfl, _, _, xcell⟩ := sl_cells hv1 hld m1
  have HIA : Hid (∀ W, Below W1.heap.size W1 W → Calls Try.prog 50 #[.slice (some ⟨rb, ro, none⟩) a rc] W fun e w' => e = .returned (.bool true) ∧ Qu W w') := Lib.hid fun W hW => by
    have := isRow_any _ rs W (hu1.below hW) HLA.out
    rwa [HRA.out] at this
  have HIB : Hid (∀ W, Below W1.heap.size W1 W → Calls Try.prog 50 #[.slice (some ⟨xb, xo, none⟩) m xc] W fun e w' => e = .returned (.bool true) ∧ Qu W w') := Lib.hid fun W hW => by
    have := isRow_any _ xs W (hv1.below hW) HLB.out
    rwa [HRB.out] at this
  have HRC := Lib.hid rcell
  have HXC := Lib.hid xcell
  have HBW := Lib.hid hbw
  have HSZ := Lib.hid hsz
  clear hu hv hu1 hv1 rcell xcell d0 d1 d2 z0 z1 z2 hbw hsz hlc hld HLA HLB HRA HRB
  go_enter Try.func37, Try.ntmps37
  go_upto_region 1 with fail
  rw [← hW1]
  clear hW1
  have B0 := Below.refl W1.heap.size W1
  go_upto_region 3 with (go_at_call 50; first
    | (with_reducible refine (HIB.out _ B1).mono ?_; rintro e w2 ⟨rfl, hq2⟩; have B2 := B1.trans (hq2.keep.mono B1.size))
    | (with_reducible refine (HIA.out _ B0).mono ?_; rintro e w1 ⟨rfl, hq1⟩; have B1 := B0.trans (hq1.keep.mono B0.size)))
  obtain ⟨W2, hW2⟩ : ∃ W2, W2 = w2.alloc (.cells #[.int .i64 (a : Int), .int .i64 (m : Int), .slice none 0 0] 47) := ⟨_, rfl⟩
  obtain ⟨G, hG⟩ : ∃ G, G = w2.heap.size := ⟨_, rfl⟩
  have hs4 : W2.heap.size = G + 1 := by rw [hW2, hG]; simp
  have hb2 : Below W1.heap.size W1 W2 := by rw [hW2]; exact B2.alloc (by have := B2.size; omega) _
  have hS0 : StB W2 G a m none 0 (kOf rs xs m 0) := by
    refine ⟨?_, ?_, ?_, ?_, rfl, .inl ⟨rfl, rfl⟩⟩
    · rw [hW2, hG]; simp
    · rw [hW2, hG]; simp
    · show World.cell? W2 _ = some (.slice none 0 0)
      rw [hW2, hG]; simp
    · rw [hW2, hG, World.frozen?_alloc_at]; simp
  have hs1 : W1.heap.size ≤ G := by have := B2.size; omega
  go_upto_region 4 with fail
  rw [← hW2, ← hG]
  clear hW2 hG B0 B1 B2 hq1 hq2 HIA HIB
  go_upto_region 5 with fail
  have HB2 := Lib.hid hb2
  have HS4 := Lib.hid hs4
  clear hb2
  go_loopw [37] (fun q wr => ∃ k : Nat, k ≤ a ∧ q = .int .i64 (k : Int) ∧ (∃ ad cd, StB wr G a m ad cd (kOf rs xs m k)) ∧ Below G W2 wr) (fun q _ => a - (intOf q).toNat)
  case atStart => exact ⟨0, Nat.zero_le _, rfl, ⟨none, 0, hS0⟩, Below.refl _ _⟩
  case round =>
    clear hS0
    obtain ⟨k, hk, rfl, ⟨ad, cd, hS⟩, hb⟩ := hrel
    have hbs := hb.size
    rw [hs4] at hbs
    by_cases hlt : k < a
    · have rk := HRC.out wr (HB2.out.trans (hb.mono hs1)) k hlt
      obtain ⟨s, hs⟩ : ∃ s, s = rs[k]?.getD 0 := ⟨_, rfl⟩
      rw [← hs] at rk
      have HSS := Lib.hid hs
      clear hs
      go_upto_region 8 with fail
      clear rk hbs
      go_loopw [43] (fun q wr => ∃ r : Nat, r ≤ m ∧ q = .int .i64 (r : Int) ∧ (∃ ad cd, StB wr G a m ad cd (kOf rs xs m k ++ kRow xs s r)) ∧ Below G W2 wr) (fun q _ => m - (intOf q).toNat)
      case atStart => exact ⟨0, Nat.zero_le _, rfl, ⟨ad, cd, by simpa [kRow] using hS⟩, hb⟩
      case round =>
        clear hS hb
        obtain ⟨r, hr, rfl, ⟨ad, cd, hS⟩, hb⟩ := hrel
        by_cases hrlt : r < m
        · have hmul := HMU.out k r hlt hrlt
          rw [← HSS.out] at hmul
          have x0 := HXC.out wr (HB2.out.trans (hb.mono hs1)) r hrlt
          have HCS := Lib.hid (kRow_succ xs s r)
          generalize xs[r]?.getD 0 = z at *
          obtain ⟨y, hyy⟩ : ∃ y, y = fA .mul .f32 s z := ⟨_, rfl⟩
          rw [← hyy] at HCS
          have hrun := fun W : World => run_fA (P := Try.prog) (w := W) .mul 32 .f32 _ _ hmul
          rw [← hyy] at hrun
          obtain ⟨zs, hzs⟩ : ∃ zs, zs = kOf rs xs m k ++ kRow xs s r := ⟨_, rfl⟩
          rw [← hzs] at hS
          have HZ := Lib.hid hzs
          have hzl : zs.length ≤ 4096 := by rw [HZ.out, List.length_append, kOf_length, kRow_length]; have : k * m ≤ 8 * 8 := Nat.mul_le_mul (by omega) (by omega); omega
          have hlS := hS.lt
          have f2 := hS.2.2.1
          have hSa : StB (wr.alloc (.cells #[.float .f32 y] 32)) G a m ad cd zs := hS.below (by go_grown)
          have hba := hb.alloc (Nat.le_of_lt hlS) (.cells #[.float .f32 y] 32)
          clear hzs hyy hmul hS hb
          go_wp2_with (at_builtin; refine wpList_append_own _ rfl _ _ 25 rfl (G + 1) 32 i0 (.float .f32 0) 1 4 Try.underlying25 hi0 hz0 hz1 hz2 rfl (by decide) _ _ _ rfl hSa.2.2.2.2 ⟨wr.heap.size, 0, none⟩ 1 1 [.float .f32 y] rfl rfl (cell_one_new _ _ _) (one_oneCell rfl) (by unfold maxLen; omega) (by omega) (by simp only [World.size_alloc]; omega) ?_; intro v1 w6 hown1 hgx _; obtain ⟨g2, c2, rfl, k3, k4⟩ := StB.app hSa hown1 hgx)
          go_roundw
          case rel => exact ⟨r + 1, by omega, by go_num, ⟨some ⟨g2, 0, none⟩, c2, by rw [HCS.out, ← List.append_assoc, ← HZ.out]; exact StB.push hSa hgx hown1⟩, push_below hba hSa (Nat.le_refl _) hgx⟩
          case measure => simp [intOf]; omega
        · obtain rfl : m = r := by omega
          go_wp2
          go_roundw
          case rel => exact ⟨k + 1, by omega, by go_num, ⟨ad, cd, by rw [kOf_succ, ← HSS.out]; exact hS⟩, hb⟩
          case measure => simp [intOf]; omega
    · obtain rfl : a = k := by omega
      have hbF : Below w.heap.size w wr := HBW.out.trans ((HB2.out.trans (hb.mono hs1)).mono (by rw [HSZ.out]; omega))
      have hlS := hS.lt
      obtain ⟨s0, s1, s2, s3, s4⟩ := hS
      generalize hzs : kOf rs xs m a = zs at *
      have HZZ := Lib.hid hzs
      clear hzs
      have hGS := HSZ.out
      go_wp2_with (go_at_call 79; refine (asTable_yes (a : Int) (m : Int) (by unfold I64; omega) (by unfold I64; omega) _ zs _ (SlR.own s4) HF.out HVV.out).mono ?_; rintro e w7 ⟨rfl, hb4⟩; have hb24 := (HB2.out.trans (hb.mono hs1)).trans (hb4.mono (by omega)); obtain ⟨⟨d0, d1, d2⟩, z0, z1, z2⟩ := KEEP.out _ hb24; have s5 := ownsRow_below s4 hb4)
      refine bodyPost_ret (v := .tuple #[.agg #[.int .i64 (a : Int), .int .i64 (m : Int), .slice ad zs.length cd], .bool true]) (by simp [results, Try.results37, go_sem, *]) rfl ?_
      have hb5 := hbF.trans (hb4.mono hbF.size)
      have o1 := ownsRow_setCell_below (a := ⟨w.heap.size, 0, none⟩) s5 (show w.heap.size < G + 1 by omega) (.int .i64 (a : Int))
      have o2 := ownsRow_setCell_below (a := ⟨w.heap.size, 1, none⟩) o1 (show w.heap.size < G + 1 by omega) (.int .i64 (m : Int))
      have o3 := ownsRow_setCell_below (a := ⟨w.heap.size, 2, none⟩) o2 (show w.heap.size < G + 1 by omega) (.slice ad zs.length cd)
      exact ⟨⟨_, rfl, by rw [HZZ.out]; exact SlR.own o3⟩, ((hb5.setCell (p := ⟨w.heap.size, 0, none⟩) (Nat.le_refl _) _).setCell (p := ⟨w.heap.size, 1, none⟩) (Nat.le_refl _) _).setCell (p := ⟨w.heap.size, 2, none⟩) (Nat.le_refl _) _⟩

end Go.Proofs.Ytmocfnpbofeiiaa
