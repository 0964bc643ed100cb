/- Letters drawn: seeds, shares, the letter of a share. -/
import Derived.Test.YtmocfnpbofeiiaaMCnR
import Derived.Test.YtmocfnpbofeiiaaMGpP
import Derived.Test.YtmocfnpbofeiiaaMFloP
import Derived.Deep.RegionHeld3
import Derived.Deep.Cut
namespace Go.Proofs.Ytmocfnpbofeiiaa
set_option linter.unusedSimpArgs false
set_option linter.unusedVariables false
open Go.RowKit
open Ieee
/-- A whole number of up to 24 bits is a word. -/
theorem foi_big {n : Nat} (h : n < 16777216) : Fnt single (floatOfInt .f32 (n : Int)) ∧ sv single (floatOfInt .f32 (n : Int)) = (n : Rat) := by
  have hn0 : (0 : Rat) ≤ (n : Rat) := by exact_mod_cast Nat.zero_le n
  have hp : pv n 0 = (n : Rat) := by
    unfold pv
    rw [show (2 : Rat) ^ (0 : Int) = 1 by decide +kernel, Rat.mul_one]
  have e : floatOfInt .f32 (n : Int) = single.nearest false n 0 := by
    show FloatKind.f32.encode (.number (decide ((n : Int) < 0)) (n : Int).natAbs 0) = _
    rw [decide_eq_false (by omega), Int.natAbs_natCast]
    rfl
  have hr : Rnd single (n : Rat) (floatOfInt .f32 (n : Int)) := by
    rw [e]
    refine nearest_rnd single s_hf _ _ _ _ ?_ (fun _ => rfl) (fun h => by grind)
    rw [hp]; exact av_of_nonneg hn0
  obtain ⟨r, r1, r2⟩ := exact_rung single (m := n) (p := 0) (by rw [s_bin]; omega) (by decide)
  refine rnd_exact hr (r := r) (by rw [r1, hp, av_of_nonneg hn0]) ?_
  have h3 : (0 - single.leastPlace).toNat + 2 ≤ 151 := by decide
  have h4 : r < 152 * single.binade := (Nat.div_lt_iff_lt_mul (binade_pos _)).1 (by omega)
  rw [s_bin] at h4
  rw [s_inf]; omega
def sdN (s : Nat) : Nat := (1664525 * s + 1013904223) % 4294967296
theorem sdN_lt (s : Nat) : sdN s < 4294967296 := Nat.mod_lt _ (by omega)
/-- The share of a seed. -/
def shW (s : Nat) : Nat := fA .mul .f32 (floatOfInt .f32 ((s / 256 : Nat) : Int)) 864026624
theorem shW_ok {s : Nat} (h : s < 4294967296) : (floatBits .mul .f32 (floatOfInt .f32 ((s / 256 : Nat) : Int)) 864026624).isSome = true ∧ Fnt single (shW s) ∧ 0 ≤ sv single (shW s) := by
  obtain ⟨a, b⟩ := foi_big (n := s / 256) (by omega)
  have f2 : Fnt single 864026624 := by unfold Fnt; decide
  have v2 : 0 ≤ sv single 864026624 ∧ sv single 864026624 ≤ 1 := by decide +kernel
  obtain ⟨w, h1, h2⟩ := mul_rnd s_hf a f2
  obtain ⟨c1, c2⟩ := fA_of (op := .mul) (k := .f32) h1
  have e : shW s = w := c2
  rw [e]
  rw [b] at h2
  have n0 : (0 : Rat) ≤ ((s / 256 : Nat) : Rat) := by exact_mod_cast Nat.zero_le _
  have n1 : ((s / 256 : Nat) : Rat) ≤ 16777216 := by
    have : ((s / 256 : Nat) : Rat) ≤ ((16777216 : Nat) : Rat) := by exact_mod_cast (show s / 256 ≤ 16777216 by omega)
    exact this
  refine ⟨c1, huge_bd (k := .f32) h2 ?_, rnd_ge0 h2 (Rat.mul_nonneg n0 v2.1)⟩
  have := av_mul_le' (show av ((s / 256 : Nat) : Rat) ≤ 16777216 by rw [av_of_nonneg n0]; exact n1) (show av (sv single 864026624) ≤ 1 by rw [av_of_nonneg v2.1]; exact v2.2)
  exact Rat.le_trans this (by decide +kernel)
/-- Greater, as words. -/
def gtF (x y : Nat) : Bool := FloatKind.f32.format.order x y == some .gt
/-- The letter that a share draws: f letters are left, the next one is i; the last one above zero was j. -/
def ltr (row : List Nat) (sh : Nat) : Nat → Nat → Nat → Nat
  | 0, _, j => j
  | f + 1, i, j => if gtF (flS (fun k => row[k]?.getD 0) (i + 1)) sh then i else ltr row sh f (i + 1) (if gtF (row[i]?.getD 0) 0 then i else j)
def letr (row : List Nat) (s : Nat) : Nat := ltr row (shW (sdN s)) row.length 0 0
/-- The seed behind k letters. -/
def sdI (s : Nat) : Nat → Nat
  | 0 => s
  | k + 1 => sdN (sdI s k)
theorem sdI_lt {s : Nat} (h : s < 4294967296) : ∀ k, sdI s k < 4294967296
  | 0 => h
  | _ + 1 => sdN_lt _
theorem sdI_add (s : Nat) (a : Nat) : ∀ b, sdI s (a + b) = sdI (sdI s a) b
  | 0 => rfl
  | b + 1 => by rw [← Nat.add_assoc]; simp only [sdI]; rw [sdI_add s a b]
/-- The letters of a seed. -/
def ltrs (row : List Nat) (s n : Nat) : List Nat := (List.range n).map fun k => letr row (sdI s k)
theorem ltrs_length (row : List Nat) (s n : Nat) : (ltrs row s n).length = n := by simp [ltrs]
theorem ltrs_get (row : List Nat) (s n : Nat) {k : Nat} (h : k < n) : (ltrs row s n)[k]?.getD 0 = letr row (sdI s k) := by
  simp [ltrs, List.getElem?_map, List.getElem?_range h]
theorem ltrs_succ (row : List Nat) (s n : Nat) : ltrs row s (n + 1) = ltrs row s n ++ [letr row (sdI s n)] := by simp [ltrs, List.range_succ]
theorem add_none {S : Nat} (h : Fnt single S) (h0 : 0 ≤ sv single S) : sv single (fA .add .f32 S 0) = sv single S := by
  have f0 : Fnt single 0 := by unfold Fnt; decide
  have v0 : sv single 0 = 0 := by decide +kernel
  obtain ⟨w, h1, h2, _⟩ := add_spec s_hf h f0
  obtain ⟨_, a2⟩ := fA_of (op := .add) (k := .f32) h1
  rw [a2]
  rw [v0, Rat.add_zero] at h2
  exact (rnd_exact h2 (r := rg single S) (by rw [av_sv]) h).2
theorem gtF_iff {x y : Nat} (hx : Fnt single x) (hy : Fnt single y) : gtF x y = decide (sv single y < sv single x) := by
  have := (order_fin hx hy).2.2
  unfold gtF
  by_cases h : sv single y < sv single x
  · rw [decide_eq_true h, show FloatKind.f32.format.order x y = some .gt from this.2 h]; rfl
  · rw [decide_eq_false h, beq_eq_false_iff_ne]
    intro hc
    exact h (this.1 hc)
section
variable {cs : List Nat} (h : Cn cs 3)
include h
theorem Cn.s0 {k : Nat} (hk : k ≤ 3) : Fnt single (flS (fun k => (rowK cs)[k]?.getD 0) k) ∧ 0 ≤ sv single (flS (fun k => (rowK cs)[k]?.getD 0) k) := by
  refine ⟨(h.fl (by omega) (by omega) k hk).1.1, ?_⟩
  induction k with
  | zero => show 0 ≤ sv single 0; decide +kernel
  | succ k ih =>
    have i1 := ih (by omega)
    have f1 := (h.fl (by omega) (by omega) k (by omega)).1.1
    have q := h.q (by omega) (by omega) (j := k) (by omega)
    have p := (h.ps0 (by omega) (by omega) (j := k) (by omega)).2
    obtain ⟨w, h1, h2, _⟩ := add_spec s_hf f1 q.1
    obtain ⟨_, a2⟩ := fA_of (op := .add) (k := .f32) h1
    show 0 ≤ sv single (fA .add .f32 (flS (fun k => (rowK cs)[k]?.getD 0) k) ((rowK cs)[k]?.getD 0))
    rw [a2]
    refine rnd_ge0 h2 ?_
    clear q h1 h2 f1 ih
    generalize sv single (flS (fun k => (rowK cs)[k]?.getD 0) k) = a at *
    generalize sv single ((rowK cs)[k]?.getD 0) = b at *
    grind
/-- A share that a sum passes for the first time stands at a chance above zero. -/
theorem Cn.pass {sh k : Nat} (hk : k < 3) (hs : Fnt single sh) (h0 : gtF (flS (fun k => (rowK cs)[k]?.getD 0) k) sh = false) (h1 : gtF (flS (fun k => (rowK cs)[k]?.getD 0) (k + 1)) sh = true) : 0 < (rowK cs)[k]?.getD 0 ∧ gtF ((rowK cs)[k]?.getD 0) 0 = true := by
  obtain ⟨f, _, q0, q1, _⟩ := h.q (by omega) (by omega) (j := k) hk
  have hc : 1 ≤ cs[k]?.getD 0 := by
    by_cases hz : cs[k]?.getD 0 = 0
    · exfalso
      obtain ⟨a1, a2⟩ := h.s0 (k := k) (by omega)
      have e : flS (fun k => (rowK cs)[k]?.getD 0) (k + 1) = fA .add .f32 (flS (fun k => (rowK cs)[k]?.getD 0) k) 0 := by
        show fA .add .f32 _ ((rowK cs)[k]?.getD 0) = _
        rw [q0 hz]
      rw [gtF_iff (h.s0 (by omega)).1 hs, e, add_none a1 a2] at h1
      rw [gtF_iff a1 hs] at h0
      rw [h0] at h1
      cases h1
    · omega
  obtain ⟨p1, p2, _⟩ := q1 hc
  refine ⟨p1, ?_⟩
  rw [gtF_iff f (by unfold Fnt; decide), show sv single 0 = 0 by decide +kernel]
  exact decide_eq_true (by generalize sv single ((rowK cs)[k]?.getD 0) = b at *; clear q0 q1; grind)
/-- The letter drawn has a chance. -/
theorem Cn.letr {s : Nat} : letr (rowK cs) s < 3 ∧ 0 < (rowK cs)[letr (rowK cs) s]?.getD 0 ∧ gtF ((rowK cs)[letr (rowK cs) s]?.getD 0) 0 = true := by
  obtain ⟨_, hf, h0⟩ := shW_ok (sdN_lt s)
  have hlen : (rowK cs).length = 3 := by rw [rowK_len, h.len]
  have z : gtF (flS (fun k => (rowK cs)[k]?.getD 0) 0) (shW (sdN s)) = false := by
    rw [gtF_iff (h.s0 (k := 0) (by omega)).1 hf]
    refine decide_eq_false ?_
    rw [show sv single (flS (fun k => (rowK cs)[k]?.getD 0) 0) = 0 from (by decide +kernel : sv single 0 = 0)]
    grind
  have last : 0 < (rowK cs)[2]?.getD 0 ∧ gtF ((rowK cs)[2]?.getD 0) 0 = true := by
    obtain ⟨f, _, _, q1, _⟩ := h.q (by omega) (by omega) (j := 2) (by omega)
    obtain ⟨p1, p2, _⟩ := q1 h.last
    refine ⟨p1, ?_⟩
    rw [gtF_iff f (by unfold Fnt; decide), show sv single 0 = 0 by decide +kernel]
    exact decide_eq_true (by generalize sv single ((rowK cs)[2]?.getD 0) = b at *; clear q1; grind)
  have p0 := fun a => h.pass (k := 0) (by omega) hf z a
  have p1 := fun a b => h.pass (k := 1) (by omega) hf a b
  unfold Proofs.Ytmocfnpbofeiiaa.letr
  rw [hlen]
  simp only [ltr]
  generalize shW (sdN s) = sh at *
  simp only [Nat.zero_add, Nat.reduceAdd] at *
  by_cases c1 : gtF (flS (fun k => (rowK cs)[k]?.getD 0) 1) sh = true
  · rw [if_pos c1]; exact ⟨by omega, p0 c1⟩
  · rw [if_neg c1]
    by_cases c2 : gtF (flS (fun k => (rowK cs)[k]?.getD 0) 2) sh = true
    · rw [if_pos c2]; exact ⟨by omega, p1 (by simpa using c1) c2⟩
    · rw [if_neg c2]
      have e : ∀ a b : Nat, (if gtF ((rowK cs)[2]?.getD 0) 0 = true then a else b) = a := fun a b => if_pos last.2
      rw [e]
      split <;> exact ⟨by omega, last⟩
end

end Go.Proofs.Ytmocfnpbofeiiaa

/- Letters drawn: the program. -/
namespace Go.Proofs.Ytmocfnpbofeiiaa
set_option linter.unusedSimpArgs false
set_option linter.unusedVariables false
open Go.RowKit
open Ieee

set_option maxRecDepth 4000 in
set_option maxHeartbeats 4000000 in
theorem drawLetter_any (cs : List Nat) (v : Value) (s : Nat) (w : World) (hc : Cn cs 3) (hs : s < 4294967296) (hv : SlR w v ((rowK cs).map (Value.float .f32))) :
    Calls Try.prog 65 #[v, .int .i64 (s : Int)] w fun e w' => e = .returned (.tuple #[.int .i64 ((letr (rowK cs) s : Nat) : Int), .int .i64 ((sdN s : Nat) : Int)]) ∧ w = w' := by
  obtain ⟨b, off, c, rfl, hnc, hcm, cell⟩ := sl_cells hv (show (rowK cs).length = 3 by rw [rowK_len, hc.len]) (by omega)
  have HC := Lib.hid (cell w (Below.refl _ _))
  obtain ⟨m1, m2, m3⟩ := shW_ok (sdN_lt s)
  have e256 : ((sdN s / 256 : Nat) : Int) = ((sdN s : Nat) : Int) / 256 := Int.natCast_ediv _ _
  rw [e256] at m1
  have HA : Hid (∀ i, i < 3 → (floatBits .add .f32 (flS (fun k => (rowK cs)[k]?.getD 0) i) ((rowK cs)[i]?.getD 0)).isSome = true) := Lib.hid fun i hi => (hc.fl (by omega) (by omega) i (by omega)).2 hi
  have HS : Hid (∀ i, flS (fun k => (rowK cs)[k]?.getD 0) (i + 1) = fA .add .f32 (flS (fun k => (rowK cs)[k]?.getD 0) i) ((rowK cs)[i]?.getD 0)) := Lib.hid fun i => rfl
  have HR : Hid (ltr (rowK cs) (shW (sdN s)) (3 - 0) 0 0 = letr (rowK cs) s) := Lib.hid (by unfold letr; rw [rowK_len, hc.len])
  have hsh : fA .mul .f32 (floatOfInt .f32 (((sdN s : Nat) : Int) / 256)) 864026624 = shW (sdN s) := by rw [← e256]; rfl
  clear e256
  have HL : Hid (∀ (sh i j : Nat), i < 3 → ltr (rowK cs) sh (3 - i) i j = if gtF (flS (fun k => (rowK cs)[k]?.getD 0) (i + 1)) sh = true then i else ltr (rowK cs) sh (3 - (i + 1)) (i + 1) (if gtF ((rowK cs)[i]?.getD 0) 0 = true then i else j)) := Lib.hid fun sh i j hi => by
    obtain ⟨f, hf⟩ : ∃ f, 3 - i = f + 1 := ⟨2 - i, by omega⟩
    rw [hf, show 3 - (i + 1) = f by omega]
    rfl
  have HE : Hid (∀ (sh j : Nat), ltr (rowK cs) sh (3 - 3) 3 j = j) := Lib.hid fun _ _ => rfl
  have HF : Hid (flS (fun k => (rowK cs)[k]?.getD 0) 0 = 0) := rfl
  have hsd : (1664525 * (s : Int) + 1013904223) % 4294967296 = ((sdN s : Nat) : Int) := by unfold sdN; omega
  have hsdl := sdN_lt s
  unfold maxLen at hcm
  clear cell hv hc m3
  generalize letr (rowK cs) s = R at *
  generalize flS (fun k => (rowK cs)[k]?.getD 0) = fs at *
  generalize rowK cs = row at *
  generalize hS : sdN s = S at *
  clear hS
  go_enter Try.func65, Try.ntmps65
  generalize shW S = sh at *
  go_wp2
  go_loop [7, 8, 21] (fun t j i => ∃ q k : Nat, k ≤ 3 ∧ i = .int .i64 (k : Int) ∧ j = .int .i64 (q : Int) ∧ t = .float .f32 (fs k) ∧ Hid (ltr row sh (3 - k) k q = R)) (fun _ _ i => 3 - (intOf i).toNat)
  case atStart => exact ⟨0, 0, by omega, rfl, rfl, by rw [HF.out], HR⟩
  case round =>
    obtain ⟨q, k, hk, rfl, rfl, rfl, hR⟩ := hrel
    by_cases hlt : k < 3
    · have hcx := HC.out k hlt
      have ha := HA.out k hlt
      have hs1 := HS.out k
      have hl := HL.out sh k q hlt
      rw [hR.out] at hl
      have f1 : (FloatKind.f32.format.order (fs (k + 1)) sh == some .gt) = gtF (fs (k + 1)) sh := rfl
      have f2 : (FloatKind.f32.format.order (row[k]?.getD 0) 0 == some .gt) = gtF (row[k]?.getD 0) 0 := rfl
      have HLL := Lib.hid hl
      clear hl
      generalize row[k]?.getD 0 = x at *
      have HS1 := Lib.hid hs1
      have ha2 : fA .add .f32 (fs k) x = fs (k + 1) := hs1.symm
      clear hs1
      obtain ⟨t1, ht1⟩ : ∃ t1, t1 = fs (k + 1) := ⟨_, rfl⟩
      have HT1 := Lib.hid ht1
      rw [← ht1] at HLL f1 ha2
      clear ht1 HS1
      generalize fs k = t0 at *
      cases hg : gtF t1 sh
      · rw [hg] at f1
        have HLN := Lib.hid (HLL.out.trans (if_neg (by rw [hg]; simp)))
        cases hg2 : gtF x 0
        · rw [hg2] at f2
          have HLM := Lib.hid (HLN.out.trans (congrArg (ltr row sh (3 - (k + 1)) (k + 1)) (if_neg (by rw [hg2]; simp))))
          clear hg hg2
          go_wp2
          go_round
          case rel => exact ⟨_, k + 1, by omega, by go_num, rfl, by rw [HT1.out], Lib.hid HLM.out.symm⟩
          case measure => simp [intOf]; omega
        · rw [hg2] at f2
          have HLM := Lib.hid (HLN.out.trans (congrArg (ltr row sh (3 - (k + 1)) (k + 1)) (if_pos hg2)))
          clear hg hg2
          go_wp2
          go_round
          case rel => exact ⟨_, k + 1, by omega, by go_num, rfl, by rw [HT1.out], Lib.hid HLM.out.symm⟩
          case measure => simp [intOf]; omega
      · rw [hg] at f1
        have HLN := Lib.hid (HLL.out.trans (if_pos hg))
        clear hg
        go_wp2
        go_ret2
        exact ⟨by rw [HLN.out]; rfl, rfl⟩
    · obtain rfl : k = 3 := by omega
      have HQ := Lib.hid (HE.out sh q)
      go_wp2
      go_ret2
      exact ⟨by rw [← hR.out, HQ.out]; rfl, rfl⟩
theorem isSeed_any (n : Int) (w : World) : Calls Try.prog 64 #[.int .i64 n] w fun e w' => e = .returned (.bool (inB n 0 4294967295)) ∧ w = w' := by
  have H := Lib.hid (within_any n 0 4294967295 w)
  go_enter Try.func64, Try.ntmps64
  go_wp2_with (go_at_call 60; refine H.out.mono ?_; rintro e w' ⟨rfl, rfl⟩)
  go_ret
  exact ⟨rfl, rfl⟩

set_option maxRecDepth 4000 in
set_option maxHeartbeats 4000000 in
theorem drawLetters_any (cs : List Nat) (v : Value) (s n : Nat) (w : World) (hc : Cn cs 3) (hs : s < 4294967296) (hn : n ≤ 64) (hv : SlR w v ((rowK cs).map (Value.float .f32))) :
    Calls Try.prog 15 #[v, .int .i64 (s : Int), .int .i64 (n : Int)] w fun e w' => (∃ a c, e = .returned (.tuple #[.slice a n c, .int .i64 ((sdI s n : Nat) : Int), .bool true]) ∧ SlR w' (.slice a n c) ((ltrs (rowK cs) s n).map nvI)) ∧ Below w.heap.size w w' := by
  obtain ⟨i0, hi0, hz00, hz01, hz02⟩ := info_parts info_Int64S
  have hir := isRow_any v (rowK cs) w hv (hc.lt (by omega) (by omega))
  rw [hc.row (by omega) (by omega)] at hir
  have HIR := Lib.hid hir
  have HSE : Hid (∀ W, Calls Try.prog 64 #[.int .i64 (s : Int)] W fun e w' => e = .returned (.bool true) ∧ W = w') := Lib.hid fun W => by
    have := isSeed_any (s : Int) W
    rwa [show inB (s : Int) 0 4294967295 = true by unfold inB; exact decide_eq_true (by omega)] at this
  have HWI : Hid (∀ W, Calls Try.prog 60 #[.int .i64 (n : Int), .int .i64 0, .int .i64 64] W fun e w' => e = .returned (.bool true) ∧ W = w') := Lib.hid fun W => by
    have := within_any (n : Int) 0 64 W
    rwa [show inB (n : Int) 0 64 = true by unfold inB; exact decide_eq_true (by omega)] at this
  have HDL : Hid (∀ (W : World) (k : Nat), Below w.heap.size w W → Calls Try.prog 65 #[v, .int .i64 ((sdI s k : Nat) : Int)] W fun e w' => e = .returned (.tuple #[.int .i64 ((letr (rowK cs) (sdI s k) : Nat) : Int), .int .i64 ((sdI s (k + 1) : Nat) : Int)]) ∧ W = w') := Lib.hid fun W k hW => drawLetter_any cs v (sdI s k) W hc (sdI_lt hs k) (hv.below hW)
  have HLS : Hid (∀ k, (ltrs (rowK cs) s (k + 1)).map nvI = (ltrs (rowK cs) s k).map nvI ++ [.int .i64 ((letr (rowK cs) (sdI s k) : Nat) : Int)]) := Lib.hid fun k => by rw [ltrs_succ, List.map_append]; rfl
  have HL0 : Hid ((ltrs (rowK cs) s 0).map nvI = []) := rfl
  have HS0 : Hid (s = sdI s 0) := rfl
  have HB : Hid (∀ k, sdI s k < 4294967296) := Lib.hid fun k => sdI_lt hs k
  have HLB : Hid (∀ k, letr (rowK cs) (sdI s k) < 3) := Lib.hid fun k => hc.letr.1
  obtain ⟨a, k0, c0, rfl, -, -, -, -⟩ := SlR.opened 0 hv
  clear hv hir hc hs
  generalize ltrs (rowK cs) s = ls at *
  generalize letr (rowK cs) = lt at *
  go_enter Try.func15, Try.ntmps15
  go_upto_region 3 with (first
    | (go_at_call 50; refine HIR.out.mono ?_; rintro e w1 ⟨rfl, hq1⟩)
    | (go_at_call 64; refine (HSE.out _).mono ?_; rintro e w' ⟨rfl, rfl⟩)
    | (go_at_call 60; refine (HWI.out _).mono ?_; rintro e w' ⟨rfl, rfl⟩))
  have hb1 : Below w.heap.size w w1 := hq1.keep
  have hb1s := hb1.size
  have hown0 : (w1.alloc (.cells #[] 2)).ownsRow w.heap.size 2 1 (.slice (some ⟨w1.heap.size, 0, none⟩) 0 0) 0 ((ls 0).map nvI) := by
    rw [HL0.out]
    exact ownsRow_base (World.ownsRow_made w1 #[] 0 (Nat.le_refl _) (Nat.zero_le _) rfl) hb1s
  have hb0 : Below w.heap.size w (w1.alloc (.cells #[] 2)) := hb1.trans (by go_grown)
  clear hq1
  go_wp2
  go_loopw [1, 9, 26] (fun q v i wr => ∃ k : Nat, k ≤ n ∧ i = .int .i64 (k : Int) ∧ q = .int .i64 ((sdI s k : Nat) : Int) ∧ wr.ownsRow w.heap.size 2 1 v k ((ls k).map nvI) ∧ Below w.heap.size w wr) (fun _ _ i _ => n - (intOf i).toNat)
  case atStart => exact ⟨0, Nat.zero_le _, rfl, by rw [← HS0.out], hown0, hb0⟩
  case round =>
    clear hown0 hb0
    obtain ⟨k, hk, rfl, rfl, hown, hb⟩ := hrel
    have hbs := hb.size
    by_cases hlt : k < n
    · have HD := Lib.hid (HDL.out wr k hb)
      have HLK := Lib.hid (HLS.out k)
      have h1 := HB.out k
      have h2 := HB.out (k + 1)
      have h3 := HLB.out k
      obtain ⟨q1, hq1⟩ : ∃ q, q = sdI s (k + 1) := ⟨_, rfl⟩
      have HQ1 := Lib.hid hq1
      rw [← hq1] at HD h2
      clear hq1
      generalize sdI s k = q0 at *
      generalize lt q0 = x at *
      go_wp2_with (first
        | (go_at_call 65; refine HD.out.mono ?_; rintro e w' ⟨rfl, rfl⟩)
        | (at_builtin; refine wpList_append_own _ rfl _ _ 30 rfl w.heap.size 2 i0 (.int .i64 0) 1 8 Try.underlying30 hi0 hz00 hz01 hz02 rfl (by decide) u9 _ _ rfl (hown.alloc _) ⟨(World.heap wr).size, 0, none⟩ 1 1 [.int .i64 (x : Int)] rfl rfl (cell_one_new _ _ _) (one_oneCell rfl) (by unfold maxLen; omega) (by omega) (by simp only [World.size_alloc]; have := hb.size; omega) ?_; intro v1 w2 hown2 hgx _; have hb2 := app_below hb (by have := hb.size; omega) _ hgx hown (by omega)))
      rw [← HLK.out] at hown2
      go_roundw
      case rel => exact ⟨k + 1, by omega, by go_num, by rw [HQ1.out], hown2, hb2⟩
      case measure => simp [intOf]; omega
    · obtain rfl : k = n := by omega
      obtain ⟨a, c, rfl⟩ := ownsRow_shape hown
      go_wp2
      go_ret3
      exact ⟨⟨a, c, rfl, SlR.own hown⟩, hb⟩

end Go.Proofs.Ytmocfnpbofeiiaa

/- Rows of counts: the program's countSum, RowOfCounts and SmoothRow (with 0 or 1 added). -/
namespace Go.Proofs.Ytmocfnpbofeiiaa
set_option linter.unusedSimpArgs false
set_option linter.unusedVariables false
open Go.RowKit
open Ieee
theorem int_cells {w : World} {v : Value} {cs : List Nat} {n : Nat} (hv : SlR w v (cnV cs)) (hn : cs.length = n) (h1 : 1 ≤ n) : ∃ b off c, v = .slice (some ⟨b, off, none⟩) n c ∧ n ≤ c ∧ c ≤ maxLen ∧ ∀ W, Below w.heap.size w W → ∀ k, k < n → W.cell? ⟨b, off + k, none⟩ = some (.int .i64 ((cs[k]?.getD 0 : Nat) : Int)) := sl_nats hv hn h1

set_option maxHeartbeats 2000000 in
theorem countSum_any (n : Nat) (cs : List Nat) (v : Value) (w : World) (hc : Cn cs n) (hn1 : 1 ≤ n) (hn : n ≤ 16) (hv : SlR w v (cnV cs)) :
    Calls Try.prog 67 #[v] w fun e w' => e = .returned (.tuple #[.int .i64 ((cs.sum : Nat) : Int), .bool true]) ∧ w = w' := by
  obtain ⟨b, off, c, rfl, hnc, hcm, cell⟩ := int_cells hv hc.len hn1
  have HC := Lib.hid (cell w (Below.refl _ _))
  have HT : Hid (∀ k, k < n → (cs.take (k + 1)).sum = (cs.take k).sum + cs[k]?.getD 0) := Lib.hid fun k hk => sum_take cs (by rw [hc.len]; exact hk)
  have HB : Hid (∀ k, k ≤ n → (cs.take k).sum ≤ 8 * n) := Lib.hid fun k hk => by
    have h1 := sum_top (cs := cs.take k) (fun x hx => hc.top x (List.mem_of_mem_take hx))
    have h2 : (cs.take k).length ≤ n := by rw [List.length_take, hc.len]; omega
    omega
  have HE : Hid (cs.sum = (cs.take n).sum) := Lib.hid (by rw [List.take_of_length_le (by rw [hc.len]; exact Nat.le_refl _)])
  have HX : Hid (∀ k, k < n → cs[k]?.getD 0 ≤ 8) := Lib.hid fun k hk => hc.top _ (by rw [List.getElem?_eq_getElem (by rw [hc.len]; exact hk)]; exact List.getElem_mem _)
  have HW : Hid (∀ (x : Nat) (W : World), x ≤ 8 → Calls Try.prog 60 #[.int .i64 (x : Int), .int .i64 0, .int .i64 1000000] W fun e w' => e = .returned (.bool true) ∧ W = w') := Lib.hid fun x W hx => by
    have := within_any (x : Int) 0 1000000 W
    rwa [show inB (x : Int) 0 1000000 = true by unfold inB; exact decide_eq_true (by omega)] at this
  unfold maxLen at hcm
  clear cell hc hv
  obtain ⟨S, hS⟩ : ∃ S, S = cs.sum := ⟨_, rfl⟩
  rw [← hS] at HE ⊢
  clear hS
  go_enter Try.func67, Try.ntmps67
  go_wp2
  go_loop [4, 9] (fun s i => ∃ k : Nat, k ≤ n ∧ i = .int .i64 (k : Int) ∧ s = .int .i64 (((cs.take k).sum : Nat) : Int)) (fun _ i => n - (intOf i).toNat)
  case atStart => exact ⟨0, Nat.zero_le _, rfl, rfl⟩
  case round =>
    obtain ⟨k, hk, rfl, rfl⟩ := hrel
    by_cases hlt : k < n
    · have hcl := HC.out k hlt
      have HTT := Lib.hid (HT.out k hlt)
      have hb := HB.out k (by omega)
      have hx := HX.out k hlt
      generalize (cs.take k).sum = t at *
      generalize cs[k]?.getD 0 = x at *
      go_wp2_with (go_at_call 60; refine (HW.out _ _ hx).mono ?_; rintro e w' ⟨rfl, rfl⟩)
      go_round
      case rel => exact ⟨k + 1, by omega, by go_num, by rw [HTT.out]; push_cast; rfl⟩
      case measure => simp [intOf]; omega
    · obtain rfl : k = n := by omega
      rw [← HE.out]
      have h32 : decide ((k : Int) ≤ 32) = true := decide_eq_true (by omega)
      go_wp2
      go_ret2
      exact ⟨rfl, rfl⟩

set_option maxRecDepth 4000 in
set_option maxHeartbeats 4000000 in
theorem RowOfCounts_any (n : Nat) (cs : List Nat) (v : Value) (w : World) (hc : Cn cs n) (hn1 : 1 ≤ n) (hn : n ≤ 8) (hv : SlR w v (cnV cs)) :
    Calls Try.prog 17 #[v] w fun e w' => (∃ a c, e = .returned (.tuple #[.slice a n c, .bool true]) ∧ SlR w' (.slice a n c) ((rowK cs).map (Value.float .f32))) ∧ Below w.heap.size w w' := by
  obtain ⟨i0, hi0, hz00, hz01, hz02⟩ := info_parts info_Float32S
  have HCS := Lib.hid (countSum_any n cs v w hc hn1 (by omega) hv)
  have HAR : Hid (∀ (u : Value) (W : World), SlR W u ((rowK cs).map (Value.float .f32)) → Calls Try.prog 68 #[u] W fun e w' => e = .returned (.tuple #[u, .bool true]) ∧ Qu W w') := Lib.hid fun u W hu => asRow_yes u (rowK cs) W hu (hc.lt hn1 hn) (hc.row hn1 hn)
  have HQU : Hid (∀ s : Nat, s < 129 → 1 ≤ s → ∀ k : Nat, k < 9 → (floatBits .quo .f32 (fw k) (fw s)).isSome = true) := fw_quo9
  have HRS : Hid (∀ (k : Nat), k < n → rwV cs (k + 1) = rwV cs k ++ [.float .f32 (fA .quo .f32 (fw (cs[k]?.getD 0)) (fw cs.sum))]) := fun k hk => rwV_succ cs (by rw [hc.len]; exact hk)
  have HRE : Hid (rwV cs n = (rowK cs).map (Value.float .f32)) := Lib.hid (by unfold rwV; rw [List.take_of_length_le (by rw [rowK_len, hc.len]; exact Nat.le_refl _)])
  have HFO : Hid (∀ x : Nat, floatOfInt .f32 (x : Int) = fw x) := fun _ => rfl
  obtain ⟨s1, s2⟩ := hc.sum hn1
  have HX : Hid (∀ k, k < n → cs[k]?.getD 0 ≤ 8) := Lib.hid fun k hk => hc.top _ (by rw [List.getElem?_eq_getElem (by rw [hc.len]; exact hk)]; exact List.getElem_mem _)
  obtain ⟨b, off, c, rfl, hnc, hcm, cell⟩ := int_cells hv hc.len hn1
  have HC := Lib.hid cell
  unfold maxLen at hcm
  clear cell hc hv
  have hF1 := HFO.out cs.sum
  generalize fw = F at *
  generalize cs.sum = T at *
  have hown0 : (w.alloc (.cells #[] 32)).ownsRow w.heap.size 32 1 (.slice (some ⟨w.heap.size, 0, none⟩) 0 0) 0 [] := World.ownsRow_made w #[] 0 (Nat.le_refl _) (Nat.zero_le _) rfl
  have hb0 : Below w.heap.size w (w.alloc (.cells #[] 32)) := by go_grown
  have HR0 : Hid (rwV cs 0 = []) := rfl
  have hown0' : (w.alloc (.cells #[] 32)).ownsRow w.heap.size 32 1 (.slice (some ⟨w.heap.size, 0, none⟩) 0 0) 0 (rwV cs 0) := by rw [HR0.out]; exact hown0
  clear hown0
  have hT0 : ((T : Int) == 0) = false := by simp; omega
  go_enter Try.func17, Try.ntmps17
  go_wp2_with (go_at_call 67; refine HCS.out.mono ?_; rintro e w' ⟨rfl, rfl⟩)
  go_loopw [6, 23] (fun u q wr => ∃ k : Nat, k ≤ n ∧ q = .int .i64 (k : Int) ∧ wr.ownsRow w.heap.size 32 1 u k (rwV cs k) ∧ Below w.heap.size w wr) (fun _ q _ => n - (intOf q).toNat)
  case atStart => exact ⟨0, Nat.zero_le _, rfl, hown0', hb0⟩
  case round =>
    clear hown0' hb0
    obtain ⟨k, hk, rfl, hown, hb⟩ := hrel
    have hbs := hb.size
    by_cases hlt : k < n
    · have hcl := HC.out wr hb k hlt
      have hm := HX.out k hlt
      have hq := HQU.out T (by omega) s1 (cs[k]?.getD 0) (by omega)
      have HS := Lib.hid (HRS.out k hlt)
      have hf := HFO.out (cs[k]?.getD 0)
      generalize cs[k]?.getD 0 = x at *
      go_wp2_with (at_builtin; refine wpList_append_own _ rfl _ _ 25 rfl w.heap.size 32 i0 (.float .f32 0) 1 4 Try.underlying25 hi0 hz00 hz01 hz02 rfl (by decide) u6 _ _ rfl (hown.alloc _) ⟨(World.heap wr).size, 0, none⟩ 1 1 [.float .f32 (fA .quo .f32 (F x) (F T))] rfl rfl (cell_one_new _ _ _) (one_oneCell rfl) (by unfold maxLen; omega) (by omega) (by simp only [World.size_alloc]; have := hb.size; omega) ?_; intro v1 w2 hown2 hgx _; have hb2 := app_below hb (by have := hb.size; omega) _ hgx hown (by omega))
      rw [← HS.out] at hown2
      go_roundw
      case rel => exact ⟨k + 1, by omega, by go_num, hown2, hb2⟩
      case measure => simp [intOf]; omega
    · obtain rfl : k = n := by omega
      obtain ⟨a, c', rfl⟩ := ownsRow_shape hown
      rw [HRE.out] at hown
      have hsl := SlR.own hown
      go_wp2_with (go_at_call 68; refine (HAR.out _ _ hsl).mono ?_; rintro e w2 ⟨rfl, hq⟩)
      go_ret2
      exact ⟨⟨a, c', rfl, hsl.below hq.keep⟩, hb.trans (hq.keep.mono hbs)⟩
def aw (a : Nat) : Nat := if a = 0 then 0 else 1065353216
theorem aw_fw : ∀ a : Nat, a < 2 → aw a = fw a := by decide +kernel
theorem fw_mulA : ∀ a : Nat, a < 2 → ∀ n : Nat, n < 9 → (floatBits .mul .f32 (aw a) (fw n)).isSome = true ∧ fA .mul .f32 (aw a) (fw n) = fw (a * n) := by decide +kernel
theorem fw_addA : ∀ s : Nat, s < 65 → ∀ t : Nat, t < 9 → (floatBits .add .f32 (fw s) (fw t)).isSome = true ∧ fA .add .f32 (fw s) (fw t) = fw (s + t) := by decide +kernel
theorem fw_addW : ∀ s : Nat, s < 9 → ∀ a : Nat, a < 2 → (floatBits .add .f32 (fw s) (aw a)).isSome = true ∧ fA .add .f32 (fw s) (aw a) = fw (s + a) := by decide +kernel
theorem fw_quoA : ∀ s : Nat, s < 80 → 1 ≤ s → ∀ k : Nat, k < 10 → (floatBits .quo .f32 (fw k) (fw s)).isSome = true := by decide +kernel
theorem fw_gt0 : ∀ s : Nat, s < 80 → 1 ≤ s → FloatKind.f32.format.order (fw s) 0 = some .gt := by decide +kernel
theorem aw_ge : ∀ a : Nat, a < 2 → FloatKind.f32.format.order (aw a) 0 = some .gt ∨ FloatKind.f32.format.order (aw a) 0 = some .eq := by decide +kernel
theorem aw_fin : ∀ a : Nat, a < 2 → finB (aw a) = true := by decide
/-- Counts with a added to each. -/
def plus (a : Nat) (cs : List Nat) : List Nat := cs.map (· + a)
theorem plus_zero (cs : List Nat) : plus 0 cs = cs := by simp [plus]
theorem plus_len (a : Nat) (cs : List Nat) : (plus a cs).length = cs.length := by simp [plus]
theorem plus_get (a : Nat) (cs : List Nat) {k : Nat} (h : k < cs.length) : (plus a cs)[k]?.getD 0 = cs[k]?.getD 0 + a := by
  simp [plus, List.getElem?_map, List.getElem?_eq_getElem h]
theorem plus_sum (a : Nat) (cs : List Nat) : (plus a cs).sum = cs.sum + a * cs.length := by
  induction cs with
  | nil => simp [plus]
  | cons c cs ih =>
    have e : (plus a (c :: cs)).sum = c + a + (plus a cs).sum := by simp [plus]
    rw [e, ih, List.sum_cons, List.length_cons, Nat.mul_add]
    omega

set_option maxRecDepth 4000 in
set_option maxHeartbeats 4000000 in
theorem SmoothRow_any (a n : Nat) (cs : List Nat) (v : Value) (w : World) (ha : a < 2) (hc : Cn cs n) (hn1 : 1 ≤ n) (hn : n ≤ 8) (hv : SlR w v (cnV cs)) (hrow : rowB (rowK (plus a cs)) = true) (hlt32 : ∀ x ∈ rowK (plus a cs), x < 4294967296) :
    Calls Try.prog 18 #[v, .float .f32 (aw a)] w fun e w' => (∃ a' c, e = .returned (.tuple #[.slice a' n c, .bool true]) ∧ SlR w' (.slice a' n c) ((rowK (plus a cs)).map (Value.float .f32))) ∧ Below w.heap.size w w' := by
  obtain ⟨i0, hi0, hz00, hz01, hz02⟩ := info_parts info_Float32S
  have HCS := Lib.hid (countSum_any n cs v w hc hn1 (by omega) hv)
  have HAR : Hid (∀ (u : Value) (W : World), SlR W u ((rowK (plus a cs)).map (Value.float .f32)) → Calls Try.prog 68 #[u] W fun e w' => e = .returned (.tuple #[u, .bool true]) ∧ Qu W w') := Lib.hid fun u W hu => asRow_yes u _ W hu hlt32 hrow
  have HFI : Hid (∀ W, Calls Try.prog 69 #[.float .f32 (aw a)] W fun e w' => e = .returned (.bool true) ∧ Qu W w') := Lib.hid fun W => by
    have := implIsFinite_any (aw a) W
    rwa [aw_fin a ha] at this
  have hl : (plus a cs).length = n := by rw [plus_len, hc.len]
  have hps := plus_sum a cs
  rw [hc.len] at hps
  obtain ⟨s1, s2⟩ := hc.sum hn1
  have han : a * n ≤ 8 := by
    have : a * n ≤ 1 * 8 := Nat.mul_le_mul (by omega) hn
    omega
  have HQU : Hid (∀ s : Nat, s < 80 → 1 ≤ s → ∀ k : Nat, k < 10 → (floatBits .quo .f32 (fw k) (fw s)).isSome = true) := fw_quoA
  have HAD : Hid (∀ s : Nat, s < 65 → ∀ t : Nat, t < 9 → (floatBits .add .f32 (fw s) (fw t)).isSome = true ∧ fA .add .f32 (fw s) (fw t) = fw (s + t)) := fw_addA
  have HAW : Hid (∀ s : Nat, s < 9 → (floatBits .add .f32 (fw s) (aw a)).isSome = true ∧ fA .add .f32 (fw s) (aw a) = fw (s + a)) := fun s hs => fw_addW s hs a ha
  obtain ⟨u1, u2⟩ := fw_mulA a ha n (by omega)
  have HRS : Hid (∀ (k : Nat), k < n → rwV (plus a cs) (k + 1) = rwV (plus a cs) k ++ [.float .f32 (fA .quo .f32 (fw (cs[k]?.getD 0 + a)) (fw (cs.sum + a * n)))]) := fun k hk => by rw [← hps, ← plus_get a cs (by rw [hc.len]; exact hk)]; exact rwV_succ (plus a cs) (by rw [hl]; exact hk)
  have HRE : Hid (rwV (plus a cs) n = (rowK (plus a cs)).map (Value.float .f32)) := Lib.hid (by unfold rwV; rw [List.take_of_length_le (by rw [rowK_len, hl]; exact Nat.le_refl _)])
  have HFO : Hid (∀ x : Nat, floatOfInt .f32 (x : Int) = fw x) := fun _ => rfl
  have HX : Hid (∀ k, k < n → cs[k]?.getD 0 ≤ 8) := Lib.hid fun k hk => hc.top _ (by rw [List.getElem?_eq_getElem (by rw [hc.len]; exact hk)]; exact List.getElem_mem _)
  obtain ⟨g1, g2⟩ := HAD.out cs.sum (by omega) (a * n) (by omega)
  have hgt := fw_gt0 (cs.sum + a * n) (by omega) (by omega)
  have hge := aw_ge a ha
  obtain ⟨b, off, c, rfl, hnc, hcm, cell⟩ := int_cells hv hc.len hn1
  have HC := Lib.hid cell
  unfold maxLen at hcm
  clear cell hc hv hl hps hrow hlt32
  have hF1 := HFO.out cs.sum
  have hF2 := HFO.out n
  have HR0 : Hid (rwV (plus a cs) 0 = []) := rfl
  generalize rwV (plus a cs) = rv at *
  generalize rowK (plus a cs) = row at *
  have HT2 : Hid (1 ≤ cs.sum + a * n ∧ cs.sum + a * n < 80) := Lib.hid ⟨by omega, by omega⟩
  generalize cs.sum = S at *
  obtain ⟨T, hT⟩ : ∃ T, T = S + a * n := ⟨_, rfl⟩
  rw [← hT] at HRS HT2 g2 hgt
  clear hT han s1 s2
  generalize a * n = an at *
  generalize fw = F at *
  generalize aw a = A at *
  rcases hge with hge | hge
  all_goals
    go_enter Try.func18, Try.ntmps18
    go_upto_region 4 with (first
      | (go_at_call 67; refine HCS.out.mono ?_; rintro e w' ⟨rfl, rfl⟩)
      | (go_at_call 69; refine (HFI.out _).mono ?_; rintro e w1 ⟨rfl, hq1⟩))
    have hb1 : Below w.heap.size w w1 := hq1.keep
    have hb1s := hb1.size
    have hown0 : (w1.alloc (.cells #[] 32)).ownsRow w.heap.size 32 1 (.slice (some ⟨w1.heap.size, 0, none⟩) 0 0) 0 (rv 0) := by
      rw [HR0.out]; exact ownsRow_base (World.ownsRow_made w1 #[] 0 (Nat.le_refl _) (Nat.zero_le _) rfl) hb1s
    have hb0 : Below w.heap.size w (w1.alloc (.cells #[] 32)) := hb1.trans (by go_grown)
    clear hq1
    go_wp2
    go_loopw [9, 43] (fun u q wr => ∃ k : Nat, k ≤ n ∧ q = .int .i64 (k : Int) ∧ wr.ownsRow w.heap.size 32 1 u k (rv k) ∧ Below w.heap.size w wr) (fun _ q _ => n - (intOf q).toNat)
    case atStart => exact ⟨0, Nat.zero_le _, rfl, hown0, hb0⟩
    case round =>
      clear hown0 hb0
      obtain ⟨k, hk, rfl, hown, hb⟩ := hrel
      have hbs := hb.size
      by_cases hlt : k < n
      · have hcl := HC.out wr hb k hlt
        have hm := HX.out k hlt
        have hq := HQU.out T HT2.out.2 HT2.out.1 (cs[k]?.getD 0 + a) (by omega)
        obtain ⟨w1', w2'⟩ := HAW.out (cs[k]?.getD 0) (by omega)
        have HS := Lib.hid (HRS.out k hlt)
        have hf := HFO.out (cs[k]?.getD 0)
        generalize cs[k]?.getD 0 = x at *
        generalize F (x + a) = fx at *
        generalize F x = f0 at *
        go_wp2_with (at_builtin; refine wpList_append_own _ rfl _ _ 25 rfl w.heap.size 32 i0 (.float .f32 0) 1 4 Try.underlying25 hi0 hz00 hz01 hz02 rfl (by decide) u9 _ _ rfl (hown.alloc _) ⟨(World.heap wr).size, 0, none⟩ 1 1 [.float .f32 (fA .quo .f32 fx (F T))] rfl rfl (cell_one_new _ _ _) (one_oneCell rfl) (by unfold maxLen; omega) (by omega) (by simp only [World.size_alloc]; have := hb.size; omega) ?_; intro v1 w2 hown2 hgx _; have hb2 := app_below hb (by have := hb.size; omega) _ hgx hown (by omega))
        rw [← HS.out] at hown2
        go_roundw
        case rel => exact ⟨k + 1, by omega, by go_num, hown2, hb2⟩
        case measure => simp [intOf]; omega
      · obtain rfl : k = n := by omega
        obtain ⟨a', c', rfl⟩ := ownsRow_shape hown
        rw [HRE.out] at hown
        have hsl := SlR.own hown
        go_wp2_with (go_at_call 68; refine (HAR.out _ _ hsl).mono ?_; rintro e w2 ⟨rfl, hq⟩)
        go_ret2
        exact ⟨⟨a', c', rfl, hsl.below hq.keep⟩, hb.trans (hq.keep.mono hbs)⟩

end Go.Proofs.Ytmocfnpbofeiiaa
