/- The chance of a word. -/
import Derived.Test.YtadakijlihibeaaFit
import Derived.Test.YtadakijlihibeaaBnd
namespace Go.Proofs.Ytadakijlihibeaa
set_option linter.unusedSimpArgs false
set_option linter.unusedVariables false
open Go.RowKit

def Enr (x : Nat) : Prop := Ch x ∧ Bd .f32 1 x
theorem one_enr {xs : List Nat} (h : oneB xs = true) : ∀ x ∈ xs, Enr x := fun x hx => by
  refine ⟨oneB_ch h x hx, Bd.of ?_⟩
  have h2 := (one_el h x hx).2
  show rg Ieee.single x ≤ _
  rw [rgs]
  have e : WK .f32 1 = 1073741824 := by decide
  rw [e]
  unfold W2 at h2
  omega
theorem pn_bd {x e : Nat} (h : Pn x) (hb : Bd .f32 e x) (he : e ≤ 127) : Ch x := by
  rcases h.cases with h1 | h1
  · exact h1
  · exfalso
    have := hb.fnt he
    rw [h1] at this
    exact absurd this (by show ¬ rg Ieee.single 2139095040 < Ieee.single.infRung; decide)
/-- The letter k of the word. -/
def wdL (ws : List Int) (k : Nat) : Nat := (ws[k]?.getD 0).toNat
def wdE (xs : List Nat) (ws : List Int) (a k : Nat) : Nat := xs[wdL ws k * a + wdL ws (k + 1)]?.getD 0
/-- The chance of the word's first k + 1 letters. -/
def wdS (xs rs : List Nat) (ws : List Int) (a : Nat) : Nat → Nat
  | 0 => rs[wdL ws 0]?.getD 0
  | k + 1 => fA .mul .f32 (wdS xs rs ws a k) (wdE xs ws a k)
def wdOk (i j : Int) (xs rs : List Nat) (ws : List Int) : Bool := fitB i j xs rs && (i == j) && decide (1 ≤ ws.length) && decide (ws.length ≤ 64) && ws.all (fun n => inB n 0 (i - 1))
def out_WordChance (i j : Int) (xs rs : List Nat) (ws : List Int) : Nat × Bool := if wdOk i j xs rs ws then (wdS xs rs ws i.toNat (ws.length - 1), true) else (0, false)
theorem wd_no {i j : Int} {xs rs : List Nat} {ws : List Int} (h : wdOk i j xs rs ws = false) : out_WordChance i j xs rs ws = (0, false) := by unfold out_WordChance; rw [h]; rfl
theorem wd_yes {a : Nat} {j : Int} {xs rs : List Nat} {ws : List Int} (h : wdOk a j xs rs ws = true) : out_WordChance a j xs rs ws = (wdS xs rs ws a (ws.length - 1), true) := by unfold out_WordChance; rw [h, Int.toNat_natCast]; rfl
theorem wd_word {i j : Int} {xs rs : List Nat} {ws : List Int} (h : wdOk i j xs rs ws = true) : fitB i j xs rs = true ∧ i = j ∧ 1 ≤ ws.length ∧ ws.length ≤ 64 ∧ ws.all (fun n => inB n 0 (i - 1)) = true := by
  unfold wdOk at h
  simp only [Bool.and_eq_true, decide_eq_true_eq, beq_iff_eq] at h
  exact ⟨h.1.1.1.1, h.1.1.1.2, h.1.1.2, h.1.2, h.2⟩
theorem wdL_lt {a : Nat} {ws : List Int} (h : ws.all (fun n => inB n 0 ((a : Int) - 1)) = true) {k : Nat} (hk : k < ws.length) : wdL ws k < a ∧ ws[k]?.getD 0 = (wdL ws k : Int) := by
  have h1 := List.all_eq_true.1 h ws[k] (List.getElem_mem hk)
  have h2 := inB_true h1
  unfold wdL
  rw [List.getElem?_eq_getElem hk]
  simp only [Option.getD_some]
  omega
theorem wdE_en {a : Nat} {xs : List Nat} {ws : List Int} (hl : xs.length = a * a) (hrows : ∀ k, k < a → rowB (rowOf xs a k) = true) (h : ws.all (fun n => inB n 0 ((a : Int) - 1)) = true) {k : Nat} (hk : k + 1 < ws.length) : Enr (wdE xs ws a k) := by
  obtain ⟨h1, _⟩ := wdL_lt h (show k < ws.length by omega)
  obtain ⟨h2, _⟩ := wdL_lt h hk
  unfold wdE
  have hr := hrows _ h1
  have hle : (wdL ws k + 1) * a ≤ xs.length := by rw [hl]; exact row_le h1
  rw [← rowOf_getElem? (xs := xs) h2]
  have hlen := rowOf_length hle
  exact get_pn (one_enr (rowB_one hr).2.2) (by rw [hlen]; exact h2)
theorem wdS_en {a : Nat} {xs rs : List Nat} {ws : List Int} (hl : xs.length = a * a) (hrows : ∀ k, k < a → rowB (rowOf xs a k) = true) (hr : rowB rs = true) (hrl : rs.length = a) (h1 : 1 ≤ ws.length) (h64 : ws.length ≤ 64) (h : ws.all (fun n => inB n 0 ((a : Int) - 1)) = true) : ∀ k, k < ws.length → Ch (wdS xs rs ws a k) ∧ Bd .f32 (1 + k) (wdS xs rs ws a k) := by
  intro k
  induction k with
  | zero =>
    intro _
    have := get_pn (one_enr (rowB_one hr).2.2) (k := wdL ws 0) (by rw [hrl]; exact (wdL_lt h (by omega)).1)
    exact ⟨this.1, this.2.mono (by omega)⟩
  | succ k ih =>
    intro hk
    obtain ⟨i1, i2⟩ := ih (by omega)
    have e := wdE_en hl hrows h hk
    have hb := (bd_mul i2 e.2 (by show 1 + k ≤ 127; omega) (by decide)).2.1
    exact ⟨pn_bd (mul_ch i1 e.1).2 hb (by omega), hb.mono (by omega)⟩
theorem wdS_fin {a : Nat} {xs rs : List Nat} {ws : List Int} (hl : xs.length = a * a) (hrows : ∀ k, k < a → rowB (rowOf xs a k) = true) (hr : rowB rs = true) (hrl : rs.length = a) (h1 : 1 ≤ ws.length) (h64 : ws.length ≤ 64) (h : ws.all (fun n => inB n 0 ((a : Int) - 1)) = true) : finB (wdS xs rs ws a (ws.length - 1)) = true :=
  ch_finB (wdS_en hl hrows hr hrl h1 h64 h _ (by omega)).1
theorem fl_cells {w : World} {v : Value} {xs : List Nat} {m : Nat} (hv : SlR w v (xs.map (Value.float .f32))) (hm : xs.length = m) (h : 1 ≤ m) : ∃ b off c, v = .slice (some ⟨b, off, none⟩) m c ∧ m ≤ c ∧ c ≤ maxLen ∧ b < w.heap.size ∧ ∀ k, k < m → w.cell? ⟨b, off + k, none⟩ = some (.float .f32 (xs[k]?.getD 0)) := by
  obtain ⟨a, n, c, rfl, hnl, hnc, hcm, hcell⟩ := SlR.opened 0 hv
  obtain rfl : n = m := by omega
  obtain ⟨b, off, rfl, -, hbl⟩ := hcell 0 h
  refine ⟨b, off, c, rfl, hnc, hcm, hbl, fun k hk => ?_⟩
  obtain ⟨b1, o1, h1, h2, _⟩ := hcell k hk
  simp only [Option.some.injEq, Addr.mk.injEq] at h1
  obtain ⟨rfl, rfl, _⟩ := h1
  rw [List.getD_eq_getElem?_getD] at h2
  exact h2
theorem in_cells {w : World} {v : Value} {xs : List Int} {m : Nat} (hv : SlR w v (xs.map (Value.int .i64))) (hm : xs.length = m) (h : 1 ≤ m) : ∃ b off c, v = .slice (some ⟨b, off, none⟩) m c ∧ m ≤ c ∧ c ≤ maxLen ∧ b < w.heap.size ∧ ∀ k, k < m → w.cell? ⟨b, off + k, none⟩ = some (.int .i64 (xs[k]?.getD 0)) := by
  obtain ⟨a, n, c, rfl, hnl, hnc, hcm, hcell⟩ := SlR.opened 0 hv
  obtain rfl : n = m := by omega
  obtain ⟨b, off, rfl, -, hbl⟩ := hcell 0 h
  refine ⟨b, off, c, rfl, hnc, hcm, hbl, fun k hk => ?_⟩
  obtain ⟨b1, o1, h1, h2, _⟩ := hcell k hk
  simp only [Option.some.injEq, Addr.mk.injEq] at h1
  obtain ⟨rfl, rfl, _⟩ := h1
  rw [List.getD_eq_getElem?_getD] at h2
  exact h2
theorem fitB_all {i j : Int} {xs rs : List Nat} (h : fitB i j xs rs = true) : validCh i j xs = true ∧ rowB rs = true ∧ (rs.length : Int) = i := by
  unfold fitB at h; simp only [Bool.and_eq_true, decide_eq_true_eq] at h; exact ⟨h.1.1, h.1.2, h.2⟩
theorem nan0_WordChance (i j : Int) (hi : I64 i) (hj : I64 j) (xs : List Nat) (_ : ∀ x ∈ xs, x < 4294967296) (_ : xs.length ≤ 1048576) (rs : List Nat) (_ : ∀ x ∈ rs, x < 4294967296) (_ : rs.length ≤ 1048576) (ws : List Int) (_ : ∀ x ∈ ws, I64 x) (_ : ws.length ≤ 1048576) : nanB (out_WordChance i j xs rs ws).1 = false := by
  cases h : wdOk i j xs rs ws
  · rw [wd_no h]; rfl
  · obtain ⟨h1, rfl, h3, h4, h5⟩ := wd_word h
    obtain ⟨g1, g2, g3⟩ := fitB_all h1
    obtain ⟨a, m, rfl, hm, _, _, _, _, hl, hrows⟩ := validCh_nat g1
    obtain rfl : a = m := by omega
    rw [wd_yes h]
    have hf := wdS_fin hl hrows g2 (by omega) h3 h4 h5
    have := of_decide_eq_true hf
    exact decide_eq_false (by show ¬ _; omega)

set_option maxHeartbeats 4000000 in
theorem impl_WordChance (w : World) (i j : Int) (hi : I64 i) (hj : I64 j) (v : Value) (xs : List Nat) (hv : SlR w v (xs.map (Value.float .f32))) (hx : ∀ x ∈ xs, x < 4294967296) (_ : xs.length ≤ 1048576) (u : Value) (rs : List Nat) (hu : SlR w u (rs.map (Value.float .f32))) (hr : ∀ x ∈ rs, x < 4294967296) (_ : rs.length ≤ 1048576) (y : Value) (ws : List Int) (hy : SlR w y (ws.map (Value.int .i64))) (hws : ∀ x ∈ ws, I64 x) (_ : ws.length ≤ 1048576) :
    Calls Try.prog 53 #[.agg #[.int .i64 i, .int .i64 j, v], u, y] w fun e w' => e = .returned (.tuple #[.float .f32 (out_WordChance i j xs rs ws).1, .bool (out_WordChance i j xs rs ws).2]) ∧ Below w.heap.size w w' := by
  have HX := Lib.hid hx
  have HR := Lib.hid hr
  obtain ⟨ad, n, c, rfl, hnl, hnc, hcm, hcell⟩ := SlR.opened 0 hy
  have hcm' : n ≤ 9223372036854775807 := by unfold maxLen at hcm; omega
  have hb0 : Below w.heap.size w (w.alloc (.cells #[.int .i64 i, .int .i64 j, v] 27)) := by go_grown
  have hv1 := hv.below hb0
  have hu1 := hu.below hb0
  have HVB := Lib.hid (fun (W : World) (hq : Below w.heap.size w W) => hv.below hq)
  have HUB := Lib.hid (fun (W : World) (hq : Below w.heap.size w W) => hu.below hq)
  have HYB := Lib.hid (fun (W : World) (hq : Below w.heap.size w W) => hy.below hq)
  have c0 : World.cell? (w.alloc (.cells #[.int .i64 i, .int .i64 j, v] 27)) ⟨w.heap.size, 0, none⟩ = some (.int .i64 i) := by simp
  have c1 : World.cell? (w.alloc (.cells #[.int .i64 i, .int .i64 j, v] 27)) ⟨w.heap.size, 1, none⟩ = some (.int .i64 j) := by simp
  have c2 : World.cell? (w.alloc (.cells #[.int .i64 i, .int .i64 j, v] 27)) ⟨w.heap.size, 2, none⟩ = some v := by simp
  have HCL := Lib.hid hcell
  have HNL := Lib.hid hnl
  have HCM := Lib.hid hcm
  have HNC := Lib.hid hnc
  clear hx hr hv hu hy hcell hcm hnc
  generalize hf : fitB i j xs rs = f
  have HF := Lib.hid hf
  cases f
  · rw [wd_no (by unfold wdOk; rw [hf]; rfl)]
    clear hf hnl
    go_enter Try.func53, Try.ntmps53
    go_wp2_with (first | (go_at_call 99; refine (takes_any _ _ hi hj _ _ xs rs _ hv1 hu1 HX.out HR.out).mono ?_; rw [HF.out]; rintro e w1 ⟨rfl, hb⟩; have e0 := cell_step c0 hb; have e1 := cell_step c1 hb; have e2 := cell_step c2 hb; have hb1 := hb0.trans (hb.mono hb0.size); have hy1 := HYB.out _ hb1; clear hb))
    go_ret2
    exact ⟨rfl, hb1⟩
  · by_cases hij : i = j
    case neg =>
      rw [wd_no (by unfold wdOk; rw [ieq_false hij]; simp)]
      have ht := ieq_false hij
      clear hf hnl
      go_enter Try.func53, Try.ntmps53
      go_wp2_with (first | (go_at_call 99; refine (takes_any _ _ hi hj _ _ xs rs _ hv1 hu1 HX.out HR.out).mono ?_; rw [HF.out]; rintro e w1 ⟨rfl, hb⟩; have e0 := cell_step c0 hb; have e1 := cell_step c1 hb; have e2 := cell_step c2 hb; have hb1 := hb0.trans (hb.mono hb0.size); have hy1 := HYB.out _ hb1; clear hb))
      go_ret2
      exact ⟨rfl, hb1⟩
    case pos =>
      subst hij
      have ht := ieq_true (rfl : i = i)
      by_cases h1 : 1 ≤ n
      case neg =>
        rw [wd_no (by unfold wdOk; rw [hnl, decide_eq_false h1]; simp)]
        clear hf hnl
        go_enter Try.func53, Try.ntmps53
        go_wp2_with (first | (go_at_call 99; refine (takes_any _ _ hi hj _ _ xs rs _ hv1 hu1 HX.out HR.out).mono ?_; rw [HF.out]; rintro e w1 ⟨rfl, hb⟩; have e0 := cell_step c0 hb; have e1 := cell_step c1 hb; have e2 := cell_step c2 hb; have hb1 := hb0.trans (hb.mono hb0.size); have hy1 := HYB.out _ hb1; clear hb))
        go_ret2
        exact ⟨rfl, hb1⟩
      case pos =>
        by_cases h2 : n ≤ 64
        case neg =>
          rw [wd_no (by unfold wdOk; rw [hnl, decide_eq_false h2]; simp)]
          clear hf hnl
          go_enter Try.func53, Try.ntmps53
          go_wp2_with (first | (go_at_call 99; refine (takes_any _ _ hi hj _ _ xs rs _ hv1 hu1 HX.out HR.out).mono ?_; rw [HF.out]; rintro e w1 ⟨rfl, hb⟩; have e0 := cell_step c0 hb; have e1 := cell_step c1 hb; have e2 := cell_step c2 hb; have hb1 := hb0.trans (hb.mono hb0.size); have hy1 := HYB.out _ hb1; clear hb))
          go_ret2
          exact ⟨rfl, hb1⟩
        case pos =>
          have iw : IntKind.i64.wrap (i - 1) = i - 1 := by
            obtain ⟨g1, _, g3⟩ := fitB_all hf
            obtain ⟨a, m, rfl, _, _, _, _⟩ := validCh_nat g1
            exact IntWalk.i64_in _ (by omega)
          generalize ha : ws.all (fun n => inB n 0 (i - 1)) = al
          have HA := Lib.hid ha
          cases al
          case false =>
            rw [wd_no (by unfold wdOk; rw [ha]; simp)]
            clear hf hnl ha
            go_enter Try.func53, Try.ntmps53
            go_wp2_with (first | (go_at_call 99; refine (takes_any _ _ hi hj _ _ xs rs _ hv1 hu1 HX.out HR.out).mono ?_; rw [HF.out]; rintro e w1 ⟨rfl, hb⟩; have e0 := cell_step c0 hb; have e1 := cell_step c1 hb; have e2 := cell_step c2 hb; have hb1 := hb0.trans (hb.mono hb0.size); have hy1 := HYB.out _ hb1; clear hb) | (go_at_call 100; refine (areWithin_any _ ws 0 _ _ hy1).mono ?_; rw [HA.out]; rintro e w' ⟨rfl, rfl⟩))
            go_ret2
            exact ⟨rfl, hb1⟩
          case true =>
            obtain ⟨g1, g2, g3⟩ := fitB_all hf
            obtain ⟨a, m, rfl, hm, a1, a2, _, _, hl, hrows⟩ := validCh_nat g1
            obtain rfl : a = m := by omega
            have hok : wdOk a a xs rs ws = true := by unfold wdOk; rw [hf, ha, hnl, decide_eq_true h1, decide_eq_true h2, ieq_true rfl]; rfl
            rw [wd_yes hok]
            have hfin := wdS_fin hl hrows g2 (by omega) (by omega) (by omega) ha
            have hrl : rs.length = a := by omega
            have hen := wdS_en hl hrows g2 hrl (by omega) (by omega) ha
            have hee := fun (k : Nat) (hk : k + 1 < ws.length) => wdE_en hl hrows ha hk
            have hlt := fun (k : Nat) (hk : k < ws.length) => wdL_lt ha hk
            rw [hnl] at hen hee hlt hfin
            rw [hnl]
            have HEN := Lib.hid hen
            have HEE := Lib.hid hee
            have HLT := Lib.hid hlt
            have HFI := Lib.hid hfin
            have HL := Lib.hid hl
            have HRL := Lib.hid hrl
            clear hm hf hnl ha hen hee hlt hfin hl hrl hrows g1 g2 g3 hok
            have hpos : 0 < a * a := Nat.mul_pos a1 a1
            obtain ⟨nx, hnx⟩ : ∃ nx, xs.length = nx := ⟨_, rfl⟩
            have hnx2 : nx = a * a := by rw [← hnx]; exact HL.out
            obtain ⟨xb, xoff, xc, rfl, hxnc, hxcm, hxb, hxk⟩ := fl_cells (HVB.out w (Below.refl _ _)) hnx (by omega)
            obtain ⟨rb, roff, rc, rfl, hrnc, hrcm, hrb, hrk⟩ := fl_cells (HUB.out w (Below.refl _ _)) HRL.out a1
            obtain ⟨wb, woff, wc, he, hwnc, hwcm, hwb, hwk⟩ := in_cells (HYB.out w (Below.refl _ _)) HNL.out h1
            simp only [Value.slice.injEq] at he
            obtain ⟨rfl, -, rfl⟩ := he
            have hx64 : nx ≤ 64 := by rw [hnx2]; exact prod_le a2 a2
            obtain ⟨p0, hp0⟩ : ∃ p, p = wdL ws 0 := ⟨_, rfl⟩
            have LT0 := HLT.out 0 (by omega)
            rw [← hp0] at LT0
            have l0 := LT0.1
            have q0 : w.cell? ⟨wb, woff, none⟩ = some (.int .i64 (p0 : Int)) := by have h := hwk 0 (by omega); rw [LT0.2, Nat.add_zero] at h; exact h
            have q1 : w.cell? ⟨rb, roff + p0, none⟩ = some (.float .f32 (wdS xs rs ws a 0)) := by have h := hrk p0 l0; rw [hp0] at h ⊢; exact h
            have HXK := Lib.hid hxk
            have HWK := Lib.hid hwk
            have HXN := Lib.hid hnx2
            obtain ⟨s0, hs0⟩ : ∃ s, s = wdS xs rs ws a 0 := ⟨_, rfl⟩
            rw [← hs0] at q1
            have HS0 := Lib.hid hs0
            have z1 : (0 : Int) ≤ (p0 : Int) := by omega
            have z2 : (p0 : Int) < (a : Int) := by omega
            have z3 : (1 : Int) ≤ (n : Int) := by omega
            clear hxk hwk hrk hnx hnx2 hs0 hp0 LT0 hpos
            dsimp only
            obtain ⟨r, hr⟩ : ∃ r, r = wdS xs rs ws a (n - 1) := ⟨_, rfl⟩
            rw [← hr]
            have HRR := Lib.hid hr
            clear hr
            by_cases hc1 : c = 1
            case pos =>
              subst hc1
              go_enter Try.func53, Try.ntmps53
              go_wp2_with (first | (go_at_call 99; refine (takes_any _ _ hi hj _ _ xs rs _ hv1 hu1 HX.out HR.out).mono ?_; rw [HF.out]; rintro e w1 ⟨rfl, hb⟩; have e0 := cell_step c0 hb; have e1 := cell_step c1 hb; have e2 := cell_step c2 hb; have hb1 := hb0.trans (hb.mono hb0.size); have hy1 := HYB.out _ hb1; have hw1 : w.heap.size + 1 ≤ w1.heap.size := (by have h := hb.size; rwa [World.size_alloc] at h); have k0 := (hb1.cell (p := ⟨wb, woff, none⟩) hwb).trans q0; have k1 := (hb1.cell (p := ⟨rb, roff + p0, none⟩) hrb).trans q1; clear hb) | (go_at_call 100; refine (areWithin_any _ ws 0 _ _ hy1).mono ?_; rw [HA.out]; rintro e w' ⟨rfl, rfl⟩))
              go_loopw [8, 49] (fun s i wr => ∃ k : Nat, k ≤ n - 1 ∧ i = .int .i64 k ∧ s = .float .f32 (wdS xs rs ws a k) ∧ Below (w.heap.size + 1) w1 wr) (fun _ i _ => n - 1 - (intOf i).toNat)
              case atStart => exact ⟨0, Nat.zero_le _, rfl, by rw [HS0.out], Below.refl _ _⟩
              case round =>
                obtain ⟨k, hk, rfl, rfl, hb⟩ := hrel
                have g0 := (hb.cell (p := ⟨w.heap.size, 0, none⟩) (show w.heap.size < w.heap.size + 1 by omega)).trans e0
                have g1 := (hb.cell (p := ⟨w.heap.size, 1, none⟩) (show w.heap.size < w.heap.size + 1 by omega)).trans e1
                have g2 := (hb.cell (p := ⟨w.heap.size, 2, none⟩) (show w.heap.size < w.heap.size + 1 by omega)).trans e2
                have hsz := hb.size
                have hbw : Below w.heap.size w wr := hb1.trans (hb.mono (by omega))
                by_cases hlt : k < n - 1
                · exfalso; omega
                · obtain rfl : k = n - 1 := by omega
                  have HF2 : Hid (finB r = true) := by show finB r = true; rw [HRR.out]; exact HFI.out
                  have HFZ : Hid (fz r = r) := by show fz r = r; unfold fz; rw [HF2.out]; rfl
                  rw [← HRR.out]
                  go_wp2_with (go_at_call 97; refine (asNumber_any _ _).mono ?_; rw [HFZ.out, HF2.out]; rintro e w5 ⟨rfl, hq5⟩)
                  go_ret2
                  exact ⟨rfl, hbw.trans (hq5.below _)⟩
            case neg =>
              go_enter Try.func53, Try.ntmps53
              go_wp2_with (first | (go_at_call 99; refine (takes_any _ _ hi hj _ _ xs rs _ hv1 hu1 HX.out HR.out).mono ?_; rw [HF.out]; rintro e w1 ⟨rfl, hb⟩; have e0 := cell_step c0 hb; have e1 := cell_step c1 hb; have e2 := cell_step c2 hb; have hb1 := hb0.trans (hb.mono hb0.size); have hy1 := HYB.out _ hb1; have hw1 : w.heap.size + 1 ≤ w1.heap.size := (by have h := hb.size; rwa [World.size_alloc] at h); have k0 := (hb1.cell (p := ⟨wb, woff, none⟩) hwb).trans q0; have k1 := (hb1.cell (p := ⟨rb, roff + p0, none⟩) hrb).trans q1; clear hb) | (go_at_call 100; refine (areWithin_any _ ws 0 _ _ hy1).mono ?_; rw [HA.out]; rintro e w' ⟨rfl, rfl⟩))
              go_loopw [8, 49] (fun s i wr => ∃ k : Nat, k ≤ n - 1 ∧ i = .int .i64 k ∧ s = .float .f32 (wdS xs rs ws a k) ∧ Below (w.heap.size + 1) w1 wr) (fun _ i _ => n - 1 - (intOf i).toNat)
              case atStart => exact ⟨0, Nat.zero_le _, rfl, by rw [HS0.out], Below.refl _ _⟩
              case round =>
                obtain ⟨k, hk, rfl, rfl, hb⟩ := hrel
                have g0 := (hb.cell (p := ⟨w.heap.size, 0, none⟩) (show w.heap.size < w.heap.size + 1 by omega)).trans e0
                have g1 := (hb.cell (p := ⟨w.heap.size, 1, none⟩) (show w.heap.size < w.heap.size + 1 by omega)).trans e1
                have g2 := (hb.cell (p := ⟨w.heap.size, 2, none⟩) (show w.heap.size < w.heap.size + 1 by omega)).trans e2
                have hsz := hb.size
                have hbw : Below w.heap.size w wr := hb1.trans (hb.mono (by omega))
                by_cases hlt : k < n - 1
                · have L1 := HLT.out k (by omega)
                  have L2 := HLT.out (k + 1) (by omega)
                  have m1 := (HWK.out k (by omega))
                  have m2 := (HWK.out (k + 1) (by omega))
                  rw [L1.2] at m1
                  rw [L2.2] at m2
                  have EN := HEN.out k (by omega)
                  have EE := HEE.out k (by omega)
                  have hmul := (mul_ch EN.1 EE.1).1
                  have hse : wdS xs rs ws a (k + 1) = fA .mul .f32 (wdS xs rs ws a k) (wdE xs ws a k) := rfl
                  have hze : wdE xs ws a k = xs[wdL ws k * a + wdL ws (k + 1)]?.getD 0 := rfl
                  have lp := L1.1
                  have lq := L2.1
                  clear EN EE L1 L2
                  generalize wdL ws k = p at *
                  generalize wdL ws (k + 1) = q at *
                  obtain ⟨P, hP⟩ : ∃ P, P = p * a := ⟨_, rfl⟩
                  have hPa : P + a ≤ nx := by rw [hP, HXN.out]; have := row_le (m := a) lp; rw [Nat.add_mul, Nat.one_mul] at this; exact this
                  have hxq := HXK.out (P + q) (by omega)
                  rw [hP] at hxq
                  rw [← hze, ← hP, ← Nat.add_assoc] at hxq
                  have HSE := Lib.hid hse
                  have HP := Lib.hid hP
                  generalize wdS xs rs ws a k = s at *
                  generalize wdE xs ws a k = z at *
                  have n1 := (hbw.cell (p := ⟨wb, woff + k, none⟩) hwb).trans m1
                  have n2 : wr.cell? ⟨wb, woff + 1 + k, none⟩ = some (.int .i64 (q : Int)) := by
                    have h := (hbw.cell (p := ⟨wb, woff + (k + 1), none⟩) hwb).trans m2
                    rw [show woff + (k + 1) = woff + 1 + k by omega] at h; exact h
                  have n3 := (hbw.cell (p := ⟨xb, xoff + P + q, none⟩) hxb).trans hxq
                  have n3a : World.cell? (wr.alloc (.cells #[.int .i64 (a : Int), .int .i64 (a : Int), .slice (some ⟨xb, xoff, none⟩) nx xc] 27)) ⟨xb, xoff + P + q, none⟩ = some (.float .f32 z) := cell_step n3 (by go_grown)
                  have z4 : (0 : Int) ≤ (p : Int) := by omega
                  have z5 : (0 : Int) ≤ (q : Int) := by omega
                  have z6 : (q : Int) < (a : Int) := by omega
                  have z7 : (0 : Int) ≤ (k : Int) := by omega
                  have z8 : (k : Int) < (n : Int) := by omega
                  clear hse hze hP hxq m1 m2
                  go_wp2
                  have Y := fun (ops : Array Oper) (o : Oper) (A : Act) (K : Act → World → Prop) (Q : Exit → Act → World → Prop) (E : Prop) => step_call (P := Try.prog) (ops := ops) (o := o) (A := A) (w := wr.drew) (K := K) (Q := Q) (E := E) (fun args w => run_enter Try.func66 (by kernel_rfl) (by kernel_rfl) args w) [.agg #[.int .i64 (a : Int), .int .i64 (a : Int), .slice (some ⟨xb, xoff, none⟩) nx xc], .int .i64 (p : Int)] [] _ _ (chRow_at a a p P xb xoff nx xc wr.drew HP.out a1 (by omega) (by omega) hPa hxnc hxcm)
                  go_region_law (((with_reducible refine Y _ _ _ _ _ _ ?_ (.func 66) [.tmp 55, .tmp 59] #[27, 2] ?_ ?_ ?_ ?_); rfl; rfl; rfl; rfl))
                  clear Y
                  all_goals
                    go_wp2
                    exact ⟨⟨k + 1, by omega, by go_num, by rw [HSE.out], Below.drew (hb.alloc (by omega) _)⟩, by simp [intOf]; omega⟩
                · obtain rfl : k = n - 1 := by omega
                  have HF2 : Hid (finB r = true) := by show finB r = true; rw [HRR.out]; exact HFI.out
                  have HFZ : Hid (fz r = r) := by show fz r = r; unfold fz; rw [HF2.out]; rfl
                  rw [← HRR.out]
                  go_wp2_with (go_at_call 97; refine (asNumber_any _ _).mono ?_; rw [HFZ.out, HF2.out]; rintro e w5 ⟨rfl, hq5⟩)
                  go_ret2
                  exact ⟨rfl, hbw.trans (hq5.below _)⟩

end Go.Proofs.Ytadakijlihibeaa
