/- The library's stable sort of a short list, over the comparison of a code's lengths. -/
import Derived.Test.YtmconcfgldiceaaDoorSrt
import Derived.Test.YtmconcfgldiceaaDoorWrdP
namespace Go.Proofs.YtmconcfgldiceaaDoor
set_option linter.unusedSimpArgs false
set_option linter.unusedVariables false
open Go.RowKit
theorem sl_cells {α : Type} (d : α) {f : α → Value} {w : World} {v : Value} {xs : List α} {m : Nat} (hv : SlR w v (xs.map f)) (hm : xs.length = m) (h : 1 ≤ m) : ∃ b off c, v = .slice (some ⟨b, off, none⟩) m c ∧ m ≤ c ∧ c ≤ maxLen ∧ b < w.heap.size ∧ ∀ k, k < m → w.cell? ⟨b, off + k, none⟩ = some (f (xs[k]?.getD d)) := by
  obtain ⟨a, n, c, rfl, hnl, hnc, hcm, hcell⟩ := SlR.opened d hv
  obtain rfl : n = m := by omega
  obtain ⟨b, off, rfl, -, hbl⟩ := hcell 0 h
  refine ⟨b, off, c, rfl, hnc, hcm, hbl, fun k hk => ?_⟩
  obtain ⟨b1, o1, h1, h2, _⟩ := hcell k hk
  simp only [Option.some.injEq, Addr.mk.injEq] at h1
  obtain ⟨rfl, rfl, _⟩ := h1
  rw [List.getD_eq_getElem?_getD] at h2
  exact h2

theorem ordX_congr (lt : Nat → Nat → Bool) (f g : Nat → Nat) (n : Nat) (h : ∀ i, i < n → f i = g i) : ordX lt f n = ordX lt g n := by
  induction n with
  | zero => rfl
  | succ n ih => rw [ordX, ordX, ih (fun i hi => h i (by omega)), h n (by omega)]
theorem insR_range (lt : Nat → Nat → Bool) (n : Nat) (h : 1 ≤ n) : insR lt 0 (List.range n) (n - 1) = ordX lt id n := by
  rw [insR_ordX _ _ _ (by simp; omega), List.drop_of_length_le (by simp; omega), List.append_nil, Nat.sub_add_cancel h]
  exact ordX_congr _ _ _ _ (fun i hi => by simp [hi])
/-- The comparison of lengths, as the program's closure does it. -/
def cfW (xs : List Int) (x y : Nat) : Int := cmpI (xs[x]?.getD 0) (xs[y]?.getD 0)
theorem cfW_lt (xs : List Int) (x y : Nat) : decide (cfW xs x y < 0) = clt xs x y := ncmpI _ _

set_option maxHeartbeats 1000000 in
theorem wcl_any (v : Value) (xs : List Int) (g B : Nat) (w0 : World) (hg : w0.cell? ⟨g, 0, none⟩ = some v) (hgB : g < B) (hv : SlR w0 v (xs.map (Value.int .i64))) (hvB : ∀ (W : World), Below B w0 W → SlR W v (xs.map (Value.int .i64))) :
    ClR Tryd.prog 53 (.pointer (some ⟨g, 0, none⟩)) B xs.length w0 (cfW xs) := by
  intro W x y hb hx hy
  have hv1 := hvB W hb
  have hg1 := (hb.cell (p := ⟨g, 0, none⟩) hgB).trans hg
  obtain ⟨a, n, c, rfl, hnl, hnc, hcm, hcell⟩ := SlR.opened 0 hv1
  obtain ⟨b, off, rfl, hc1, hbl⟩ := hcell x (by omega)
  obtain ⟨b', off', e, hc2, _⟩ := hcell y (by omega)
  simp only [Option.some.injEq, Addr.mk.injEq] at e
  obtain ⟨rfl, rfl, _⟩ := e
  rw [List.getD_eq_getElem?_getD] at hc1 hc2
  unfold maxLen at hcm
  have HF : Hid (cfW xs x y = cmpI (xs[x]?.getD 0) (xs[y]?.getD 0)) := rfl
  have hxi : (0 : Int) ≤ (x : Int) := by omega
  have hxn : (x : Int) < (n : Int) := by omega
  have hyi : (0 : Int) ≤ (y : Int) := by omega
  have hyn : (y : Int) < (n : Int) := by omega
  have hxn' : x < n := by omega
  have hyn' : y < n := by omega
  have hn9 : (n : Int) ≤ 9223372036854775807 := by omega
  generalize xs[x]?.getD 0 = p at *
  generalize xs[y]?.getD 0 = q at *
  clear hcell hnl hv hvB hv1 hg hx hy
  go_enter Tryd.func53, Tryd.ntmps53
  go_wp2
  go_quiet ((go_at_call 54; exact Calls.quiet_of_same ((compare64_any _ _ _).mono (fun e w' ⟨h1, h2⟩ => ⟨h1, h2.symm⟩))))
  go_wp2
  go_ret
  exact ⟨ret_int HF.out.symm, _, rfl⟩

set_option maxHeartbeats 1000000 in
theorem stableWords_any (cp : Value) (B N n : Nat) (w0 w : World) (cf : Nat → Nat → Int) (lt : Nat → Nat → Bool) (hcf : ∀ x y, x < N → y < N → decide (cf x y < 0) = lt x y) (hcl : ClR Tryd.prog 53 cp B N w0 cf) (ad : Option Addr) (c : Nat) (l : List Nat) (hl : l.length = n) (hN : ∀ x ∈ l, x < N)
    (h1 : 1 ≤ n) (hn : n ≤ 19) (hown : w.ownsRow B 3 1 (.slice ad n c) n (nats l)) (hb : Below B w0 w) :
    Calls Tryd.prog 52 #[.slice ad n c, .func (.func 53) #[] #[cp]] w fun e w' => e = .returned (.tuple #[]) ∧ w'.ownsRow B 3 1 (.slice ad n c) n (nats (insR lt 0 l (n - 1))) ∧ Below B w0 w' ∧ w.grownBy w' (Value.slice ad n c).ownBlock := by
  have hins := insWords_any cp B N n 0 n w0 w cf lt hcf hcl ad c l hl hN (by omega) h1 (by omega) hown hb
  rw [Nat.zero_add] at hins
  have HI := Lib.hid hins
  clear hins hcf hcl hl hN hown hb
  have hst : Calls Tryd.prog 77 #[.slice ad n c, .int .i64 (n : Int), .func (.func 53) #[] #[cp]] w fun e w' => e = .returned (.tuple #[]) ∧ w'.ownsRow B 3 1 (.slice ad n c) n (nats (insR lt 0 l (n - 1))) ∧ Below B w0 w' ∧ w.grownBy w' (Value.slice ad n c).ownBlock := by
    go_enter Tryd.func77, Tryd.ntmps77
    go_wp2
    refine wp_loop_rounds 1 ?_
    rw [rounds_succ]
    go_wp2_with (go_at_call 93; refine HI.out.mono ?_; rintro e w1 ⟨rfl, ho, hb, hg⟩)
    refine wp_loop_rounds 1 ?_
    rw [rounds_succ]
    go_wp2
    go_end0
    exact ⟨rfl, ho, hb, hg⟩
  have HS := Lib.hid hst
  clear hst
  go_enter Tryd.func52, Tryd.ntmps52
  go_wp2_with (go_at_call 77; refine HS.out.mono ?_; rintro e w1 ⟨rfl, ho, hb, hg⟩)
  go_end0
  exact ⟨rfl, ho, hb, hg⟩

end Go.Proofs.YtmconcfgldiceaaDoor
