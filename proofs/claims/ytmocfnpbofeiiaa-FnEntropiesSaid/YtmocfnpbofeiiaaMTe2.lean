/- Errors of tests: binomials, words of types, chances of types, on both sides. -/
import Derived.Test.YtmocfnpbofeiiaaMTeP
import Derived.BigQuiet
import Derived.IntWalk
import Derived.Handy
import Derived.Test.YtmocfnpbofeiiaaMCod
namespace Go.Proofs.Ytmocfnpbofeiiaa
set_option linter.unusedSimpArgs false
set_option linter.unusedVariables false
open Go.RowKit
open Ieee
/-- A list of words with a place, opened. -/
theorem sl_cells {w : World} {v : Value} {us : List Nat} {n : Nat} (hv : SlR w v (us.map (Value.float .f32))) (hn : us.length = n) (h1 : 1 ≤ n) : ∃ b off c, v = .slice (some ⟨b, off, none⟩) n c ∧ n ≤ c ∧ c ≤ maxLen ∧ ∀ W, Below w.heap.size w W → ∀ k, k < n → W.cell? ⟨b, off + k, none⟩ = some (.float .f32 (us[k]?.getD 0)) := by
  obtain ⟨a, c, rfl, hnc, hcm, hcell⟩ := hv
  rw [List.length_map, hn] at hnc ⊢
  obtain ⟨b, off, rfl, -⟩ := hcell 0 (.float .f32 (us[0]?.getD 0)) (by rw [List.getElem?_map, List.getElem?_eq_getElem (by omega)]; rfl)
  refine ⟨b, off, c, rfl, hnc, hcm, fun W hW k hk => ?_⟩
  obtain ⟨b', o', e, h⟩ := hcell k (.float .f32 (us[k]?.getD 0)) (by rw [List.getElem?_map, List.getElem?_eq_getElem (by omega)]; rfl)
  cases e
  exact cell_step h hW
theorem sl_nats {w : World} {v : Value} {cs : List Nat} {n : Nat} (hv : SlR w v (cs.map nvI)) (hn : cs.length = n) (h1 : 1 ≤ n) : ∃ b off c, v = .slice (some ⟨b, off, none⟩) n c ∧ n ≤ c ∧ c ≤ maxLen ∧ ∀ W, Below w.heap.size w W → ∀ k, k < n → W.cell? ⟨b, off + k, none⟩ = some (.int .i64 ((cs[k]?.getD 0 : Nat) : Int)) := by
  obtain ⟨a, c, rfl, hnc, hcm, hcell⟩ := hv
  rw [List.length_map, hn] at hnc ⊢
  obtain ⟨b, off, rfl, -⟩ := hcell 0 (nvI (cs[0]?.getD 0)) (by rw [List.getElem?_map, List.getElem?_eq_getElem (by omega)]; rfl)
  refine ⟨b, off, c, rfl, hnc, hcm, fun W hW k hk => ?_⟩
  obtain ⟨b', o', e, h⟩ := hcell k (nvI (cs[k]?.getD 0)) (by rw [List.getElem?_map, List.getElem?_eq_getElem (by omega)]; rfl)
  cases e
  exact cell_step h hW

set_option maxHeartbeats 1000000 in
theorem choose_any (n k : Nat) (w : World) (hn : n ≤ 12) (hk : k ≤ n) :
    Calls Try.prog 61 #[.int .i64 (n : Int), .int .i64 (k : Int)] w fun e w' => e = .returned (.int .i64 ((chs n k k : Nat) : Int)) ∧ w = w' := by
  have HC : Hid (∀ i, i < k → chs n k (i + 1) = chs n k i * (n - k + (i + 1)) / (i + 1) ∧ chs n k i ≤ 1000) := Lib.hid fun i hi => ⟨rfl, chs_le hn hk (by omega)⟩
  go_enter Try.func61, Try.ntmps61
  go_wp2
  go_loopw [5, 6] (fun o i W => ∃ p : Nat, p ≤ k ∧ i = .int .i64 ((p + 1 : Nat) : Int) ∧ o = .int .i64 ((chs n k p : Nat) : Int) ∧ w = W) (fun _ i _ => k + 1 - (intOf i).toNat)
  case atStart => exact ⟨0, Nat.zero_le _, rfl, rfl, rfl⟩
  case round =>
    obtain ⟨p, hp, rfl, rfl, rfl⟩ := hrel
    by_cases hlt : p < k
    · obtain ⟨h1, h2⟩ := HC.out p hlt
      have HS := Lib.hid h1
      clear h1
      generalize chs n k p = X at *
      obtain ⟨q, hq⟩ : ∃ q, q = p + 1 := ⟨_, rfl⟩
      have HQ := Lib.hid hq
      obtain ⟨D, hD⟩ : ∃ D, D = n - k + q := ⟨_, rfl⟩
      have e1 : (n : Int) - (k : Int) + (q : Int) = (D : Int) := by omega
      obtain ⟨Z, hZ⟩ : ∃ Z, Z = X * D := ⟨_, rfl⟩
      have e2 : (X : Int) * (D : Int) = (Z : Int) := by rw [hZ]; simp
      have hDb : D ≤ 24 := by omega
      have hZb : Z ≤ 24000 := by rw [hZ]; exact Nat.mul_le_mul h2 hDb
      have hq0 : ¬ (q : Int) = 0 := by omega
      have hqk : (q : Int) ≤ (k : Int) := by omega
      have HR : Hid (chs n k (p + 1) = Z / q) := by show _ = _; rw [HS.out, hZ, hD, hq]
      have E9 : Hid ((q : Int) + 1 = ((p + 1 + 1 : Nat) : Int)) := by show _ = _; omega
      rw [← hq]
      have hq12 : q ≤ 12 := by omega
      have HDV : Hid (wrap64 ((Z : Int) / (q : Int)) = ((Z / q : Nat) : Int)) := by
        show _ = _
        rw [← Int.natCast_ediv]
        have hdv := Nat.div_le_self Z q
        generalize Z / q = y at hdv ⊢
        exact IntWalk.wrap64_in _ (by omega)
      clear hq hD hZ HS
      go_wp2
      go_roundw
      case rel => exact ⟨p + 1, by omega, by rw [E9.out], by rw [HR.out, HDV.out], by first | rfl | trivial⟩
      case measure => have := HQ.out; simp [intOf]; omega
    · obtain rfl : p = k := by omega
      have hkk : ¬ ((p + 1 : Nat) : Int) ≤ (p : Int) := by omega
      go_wp2
      go_ret
      exact ⟨rfl, rfl⟩
/-- What the walks of counts want of a type. -/
theorem Ty.step {n L : Nat} {cs : List Nat} (h : Ty n L cs) (hn : n ≤ 12) {j : Nat} (hj : j < L) : sumP cs (j + 1) = sumP cs j + cs[j]?.getD 0 ∧ sumP cs (j + 1) ≤ 12 ∧ wsP cs (j + 1) = wsP cs j * chs (sumP cs (j + 1)) (cs[j]?.getD 0) (cs[j]?.getD 0) ∧ wsP cs j ≤ 65536 ∧ chs (sumP cs (j + 1)) (cs[j]?.getD 0) (cs[j]?.getD 0) ≤ 1000 := by
  obtain ⟨a, b⟩ := h.at hj
  exact ⟨a, by omega, rfl, h.ws j (by omega), chs_le (by omega) (by omega) (Nat.le_refl _)⟩

set_option maxRecDepth 4000 in
set_option maxHeartbeats 2000000 in
theorem implWords_any (n L : Nat) (cs : List Nat) (v : Value) (w : World) (hT : Ty n L cs) (hn : n ≤ 12) (hL : L = 2 ∨ L = 3) (hv : SlR w v (cs.map nvI)) :
    Calls Try.prog 12 #[v] w fun e w' => e = .returned (.tuple #[.int .i64 ((wsP cs L : Nat) : Int), .bool true]) ∧ w = w' := by
  have hAW := areWithin_any v (cs.map (fun c : Nat => (c : Int))) 0 20 w (by rw [List.map_map]; exact hv)
  rw [show ((cs.map (fun c : Nat => (c : Int))).all (fun n => inB n 0 20)) = true by
    rw [List.all_eq_true]
    intro x hx
    obtain ⟨c, hc, rfl⟩ := List.mem_map.1 hx
    obtain ⟨j, hj, rfl⟩ := List.mem_iff_getElem.1 hc
    obtain ⟨a, b, -⟩ := hT.step hn (j := j) (by rw [← hT.len]; exact hj)
    rw [List.getElem?_eq_getElem hj] at a
    exact decide_eq_true ⟨by omega, by simp at a; omega⟩] at hAW
  have HAW := Lib.hid hAW
  obtain ⟨b, off, c, rfl, hnc, hcm, hcell⟩ := sl_nats hv hT.len (by omega)
  have HC := Lib.hid (hcell w (Below.refl _ _))
  have HST : Hid (∀ j, j < L → sumP cs (j + 1) = sumP cs j + cs[j]?.getD 0 ∧ sumP cs (j + 1) ≤ 12 ∧ wsP cs (j + 1) = wsP cs j * chs (sumP cs (j + 1)) (cs[j]?.getD 0) (cs[j]?.getD 0) ∧ wsP cs j ≤ 65536 ∧ chs (sumP cs (j + 1)) (cs[j]?.getD 0) (cs[j]?.getD 0) ≤ 1000) := Lib.hid fun j hj => hT.step hn hj
  unfold maxLen at hcm
  clear hAW hcell hv hT
  have hL1 : 2 ≤ L := by omega
  have hL3 : L ≤ 3 := by omega
  clear hL
  go_enter Try.func12, Try.ntmps12
  go_wp2_with (go_at_call 62; refine HAW.out.mono ?_; rintro e w' ⟨rfl, rfl⟩)
  go_loopw [4, 5, 23] (fun a s i W => ∃ j : Nat, j ≤ L ∧ i = .int .i64 (j : Int) ∧ a = .int .i64 ((wsP cs j : Nat) : Int) ∧ s = .int .i64 ((sumP cs j : Nat) : Int) ∧ w = W) (fun _ _ i _ => L - (intOf i).toNat)
  case atStart => exact ⟨0, Nat.zero_le _, rfl, rfl, rfl, rfl⟩
  case round =>
    obtain ⟨j, hj, rfl, rfl, rfl, rfl⟩ := hrel
    by_cases hlt : j < L
    · obtain ⟨h1, h2, h3, h4, h5⟩ := HST.out j hlt
      have d := HC.out j hlt
      have hch := choose_any (sumP cs (j + 1)) (cs[j]?.getD 0) w h2 (by omega)
      rw [h1, Int.natCast_add] at hch
      rw [h1] at h3 h2 h5
      have HCH := Lib.hid hch
      have H1 := Lib.hid h1
      have H3 := Lib.hid h3
      clear hch h1 h3
      generalize chs (sumP cs j + cs[j]?.getD 0) (cs[j]?.getD 0) (cs[j]?.getD 0) = Y at *
      generalize cs[j]?.getD 0 = x at *
      generalize sumP cs j = S at *
      generalize wsP cs j = X at *
      obtain ⟨Z, hZ⟩ : ∃ Z, Z = X * Y := ⟨_, rfl⟩
      have e2 : (X : Int) * (Y : Int) = (Z : Int) := by rw [hZ]; simp
      have hZb : Z ≤ 65536000 := by rw [hZ]; exact Nat.mul_le_mul h4 h5
      have HZ := Lib.hid hZ
      have hx20 : ¬ (20 : Int) < (S : Int) + (x : Int) := by omega
      clear hZ
      go_wp2_with (go_at_call 61; refine HCH.out.mono ?_; rintro e w' ⟨rfl, rfl⟩)
      go_roundw
      case rel => exact ⟨j + 1, by omega, by go_num, by rw [H3.out, HZ.out], by rw [H1.out, Int.natCast_add], by first | rfl | trivial⟩
      case measure => simp [intOf]; omega
    · obtain rfl : j = L := by omega
      go_wp2
      go_ret2
      exact ⟨rfl, rfl⟩

set_option maxHeartbeats 1000000 in
theorem l02Total_any (n L : Nat) (cs : List Nat) (v : Value) (w : World) (hT : Ty n L cs) (hn : n ≤ 12) (hL : L = 2 ∨ L = 3) (hv : SlR w v (cs.map nvI)) :
    Calls Try.prog 107 #[v] w fun e w' => e = .returned (.int .i64 (n : Int)) ∧ w = w' := by
  obtain ⟨b, off, c, rfl, hnc, hcm, hcell⟩ := sl_nats hv hT.len (by omega)
  have HC := Lib.hid (hcell w (Below.refl _ _))
  have HST : Hid (∀ j, j < L → sumP cs (j + 1) = sumP cs j + cs[j]?.getD 0 ∧ sumP cs (j + 1) ≤ 12) := Lib.hid fun j hj => ⟨(hT.step hn hj).1, (hT.step hn hj).2.1⟩
  have HE : Hid (sumP cs L = n) := by show _ = _; unfold sumP; rw [← hT.len, List.take_length, hT.sum]
  unfold maxLen at hcm
  clear hcell hv hT
  have hL3 : L ≤ 3 := by omega
  clear hL
  go_enter Try.func107, Try.ntmps107
  go_wp2
  go_loopw [3, 4] (fun s i W => ∃ j : Nat, j ≤ L ∧ i = .int .i64 (j : Int) ∧ s = .int .i64 ((sumP cs j : Nat) : Int) ∧ w = W) (fun _ i _ => L - (intOf i).toNat)
  case atStart => exact ⟨0, Nat.zero_le _, rfl, rfl, rfl⟩
  case round =>
    obtain ⟨j, hj, rfl, rfl, rfl⟩ := hrel
    by_cases hlt : j < L
    · obtain ⟨h1, h2⟩ := HST.out j hlt
      have d := HC.out j hlt
      rw [h1] at h2
      have H1 := Lib.hid h1
      clear h1
      generalize cs[j]?.getD 0 = x at *
      generalize sumP cs j = S at *
      go_wp2
      go_roundw
      case rel => exact ⟨j + 1, by omega, by go_num, by rw [H1.out, Int.natCast_add], by first | rfl | trivial⟩
      case measure => simp [intOf]; omega
    · obtain rfl : j = L := by omega
      go_wp2
      go_ret
      exact ⟨by rw [HE.out]; rfl, rfl⟩

end Go.Proofs.Ytmocfnpbofeiiaa

/- Errors of tests: chances of types, on both sides. -/
namespace Go.Proofs.Ytmocfnpbofeiiaa
set_option linter.unusedSimpArgs false
set_option linter.unusedVariables false
open Go.RowKit
open Ieee
theorem fz_fin {x e : Nat} (h : Bd .f32 e x) (he : e ≤ 127) : finB x = true ∧ fz x = x := by
  have hf := h.fnt (k := .f32) he
  have hb : finB x = true := by
    unfold Fnt at hf
    have : rg single x < 2139095040 := hf
    rw [rgs] at this
    exact decide_eq_true this
  exact ⟨hb, by unfold fz; rw [hb]; rfl⟩
/-- What the walks of products want. -/
theorem pr_step {n L : Nat} {row cs : List Nat} (hT : Ty n L cs) (hn : n ≤ 12) (hr : Abv row) (hl : row.length = L) {j : Nat} (hj : j < L) {p : Nat} (hp : p ≤ cs[j]?.getD 0) : (floatBits .mul .f32 (mulN (prP row cs L j) (row[j]?.getD 0) p) (row[j]?.getD 0)).isSome = true := by
  have hb := prP_bd hT hn hr hl j (by omega)
  obtain ⟨a, b⟩ := hT.at hj
  exact (mulN_bd hb (row_bd hr (j := j) (by omega)) p (by omega)).2

set_option maxRecDepth 4000 in
set_option maxHeartbeats 4000000 in
theorem implChance_any (n L : Nat) (row cs : List Nat) (v u : Value) (w : World) (hT : Ty n L cs) (hn : n ≤ 12) (hL : L = 2 ∨ L = 3) (hr : Abv row) (hl : row.length = L) (hrow : rowB row = true) (hv : SlR w v (row.map (Value.float .f32))) (hu : SlR w u (cs.map nvI)) :
    Calls Try.prog 13 #[v, u] w fun e w' => e = .returned (.tuple #[.float .f32 (chF row cs L), .bool true]) ∧ Qu w w' := by
  have HWO := Lib.hid (implWords_any n L cs u w hT hn hL hu)
  have hw32 : ∀ x ∈ row, x < 4294967296 := fun x hx => by have := (hr x hx).2; omega
  have hIR := isRow_any v row w hv hw32
  rw [hrow] at hIR
  have HIR := Lib.hid hIR
  obtain ⟨f1, f2⟩ := fz_fin (chF_bd hT hn hr hl) (by omega)
  have HAN : Hid (∀ W, Calls Try.prog 63 #[.float .f32 (chF row cs L)] W fun e w' => e = .returned (.tuple #[.float .f32 (chF row cs L), .bool true]) ∧ Qu W w') := Lib.hid fun W => by
    have := asNumber_any (chF row cs L) W
    rw [f1, f2] at this
    exact this
  have HPS : Hid (∀ j, j < L → ∀ p, p ≤ cs[j]?.getD 0 → (floatBits .mul .f32 (mulN (prP row cs L j) (row[j]?.getD 0) p) (row[j]?.getD 0)).isSome = true) := Lib.hid fun j hj p hp => pr_step hT hn hr hl hj hp
  have HPJ : Hid (∀ j, prP row cs L (j + 1) = mulN (prP row cs L j) (row[j]?.getD 0) (cs[j]?.getD 0)) := Lib.hid fun j => rfl
  have HP0 : Hid (floatOfInt .f32 ((wsP cs L : Nat) : Int) = prP row cs L 0) := rfl
  have HCB : Hid (∀ j, j < L → cs[j]?.getD 0 ≤ 12) := Lib.hid fun j hj => by obtain ⟨a, b⟩ := hT.at hj; omega
  have HPE : Hid (chF row cs L = prP row cs L L) := rfl
  obtain ⟨b1, o1, k1, rfl, n1, m1, cell1⟩ := sl_cells hv hl (by omega)
  obtain ⟨b2, o2, k2, rfl, n2, m2, cell2⟩ := sl_nats hu hT.len (by omega)
  have HC1 := Lib.hid cell1
  have HC2 := Lib.hid cell2
  unfold maxLen at m1 m2
  have hL3 : L ≤ 3 := by omega
  clear cell1 cell2 hv hu hT hr hl hrow hIR hw32 f1 f2 hL
  generalize chF row cs L = res at *
  generalize wsP cs L = ws at *
  go_enter Try.func13, Try.ntmps13
  go_wp2_with (first
    | (go_at_call 50; refine HIR.out.mono ?_; rintro e w2 ⟨rfl, hq2⟩)
    | (go_at_call 12; refine HWO.out.mono ?_; rintro e w' ⟨rfl, rfl⟩))
  rw [HP0.out]
  go_loopw [8, 34] (fun o i W => ∃ j : Nat, j ≤ L ∧ i = .int .i64 (j : Int) ∧ o = .float .f32 (prP row cs L j) ∧ Qu w W) (fun _ i _ => L - (intOf i).toNat)
  case atStart => exact ⟨0, Nat.zero_le _, rfl, rfl, hq2⟩
  case round =>
    clear hq2
    obtain ⟨j, hj, rfl, rfl, hq⟩ := hrel
    by_cases hlt : j < L
    · have d1 := HC1.out wr hq.keep j hlt
      have d2 := HC2.out wr hq.keep j hlt
      have HP := Lib.hid (HPS.out j hlt)
      have HJ := Lib.hid (HPJ.out j)
      have hc12 := HCB.out j hlt
      generalize row[j]?.getD 0 = r at *
      generalize cs[j]?.getD 0 = x at *
      obtain ⟨X, hX⟩ : ∃ X, X = prP row cs L j := ⟨_, rfl⟩
      rw [← hX] at HP HJ ⊢
      clear hX
      go_wp2_with fail
      have HM0 : Hid (X = mulN X r 0) := rfl
      go_loopw [8, 40] (fun o i W => ∃ p : Nat, p ≤ x ∧ i = .int .i64 (p : Int) ∧ o = .float .f32 (mulN X r p) ∧ wr = W) (fun _ i _ => x - (intOf i).toNat)
      case atStart => exact ⟨0, Nat.zero_le _, rfl, by rw [← HM0.out], rfl⟩
      case round =>
        obtain ⟨p, hp, rfl, rfl, rfl⟩ := hrel
        by_cases hlt2 : p < x
        · have hs := HP.out p hp
          have HMS : Hid (fA .mul .f32 (mulN X r p) r = mulN X r (p + 1)) := rfl
          generalize mulN X r p = Y at *
          go_wp2
          go_roundw
          case rel => exact ⟨p + 1, by omega, by go_num, by rw [← HMS.out], by first | rfl | trivial⟩
          case measure => simp [intOf]; omega
        · obtain rfl : p = x := by omega
          rw [← HJ.out]
          go_wp2
          go_roundw
          case rel => exact ⟨j + 1, by omega, by go_num, rfl, hq⟩
          case measure => simp [intOf]; omega
    · obtain rfl : j = L := by omega
      rw [← HPE.out]
      go_wp2_with (go_at_call 63; refine (HAN.out _).mono ?_; rintro e w3 ⟨rfl, hq3⟩)
      go_ret2
      exact ⟨rfl, hq.trans hq3⟩

end Go.Proofs.Ytmocfnpbofeiiaa
