/- Types counted, their words and chances added: plain. -/
import Derived.Test.YtmocfnpbofeiiaaMCnR
import Derived.Test.YtmocfnpbofeiiaaMGpP
namespace Go.Proofs.Ytmocfnpbofeiiaa
set_option linter.unusedSimpArgs false
set_option linter.unusedVariables false
open Go.RowKit
open Ieee
/-- The words of some types. -/
def tpW (l : List (List Nat)) : Nat := (l.map fun cs => wsP cs 3).sum
theorem tpW_snoc (l : List (List Nat)) (cs : List Nat) : tpW (l ++ [cs]) = tpW l + wsP cs 3 := by simp [tpW]
/-- Their chances, added in double precision. -/
def tpS (row : List Nat) (l : List (List Nat)) : Nat := l.foldl (fun s cs => fA .add .f64 s (up64 (chF row cs 3))) 0
theorem tpS_snoc (row : List Nat) (l : List (List Nat)) (cs : List Nat) : tpS row (l ++ [cs]) = fA .add .f64 (tpS row l) (up64 (chF row cs 3)) := by
  unfold tpS; rw [List.foldl_append]; rfl
/-- The types before i and k. -/
def tpP (n i k : Nat) : List (List Nat) := outT n 3 i ++ inn n 3 i k
theorem tpP_pre {n i k : Nat} (hi : i ≤ n) (hk : k ≤ n - i + 1) : tpP n i k <+: tysL n 3 := mid_pre n 3 i k hi hk
theorem tpP_zero (n i : Nat) : tpP n i 0 = outT n 3 i := by unfold tpP inn; simp
theorem tpP_succ {n i k : Nat} (hk : k ≤ n - i) : tpP n i (k + 1) = tpP n i k ++ [[i, k, n - i - k]] := by
  unfold tpP
  rw [inn_succ n 3 i k hk, List.append_assoc]
  rfl
theorem tpP_end {n i : Nat} : tpP n i (n - i + 1) = outT n 3 (i + 1) := by rw [outT_succ]; rfl
theorem types_ok : ((List.range 7).all fun n => decide ((tysL n 3).length = chs (n + 2) 2 2) && decide (tpW (tysL n 3) = 3 ^ n) && decide ((tysL n 3).length ≤ 28)) = true := by decide +kernel
theorem types_of {n : Nat} (hn : n ≤ 6) : (tysL n 3).length = chs (n + 2) 2 2 ∧ tpW (tysL n 3) = 3 ^ n ∧ (tysL n 3).length ≤ 28 := by
  have h := types_ok
  rw [List.all_eq_true] at h
  have := h n (List.mem_range.2 (by omega))
  simp only [Bool.and_eq_true, decide_eq_true_eq] at this
  exact ⟨this.1.1, this.1.2, this.2⟩
theorem tpW_le {n : Nat} (hn : n ≤ 6) {l : List (List Nat)} (hl : l <+: tysL n 3) : l.length ≤ 28 ∧ tpW l ≤ 60000 ∧ ∀ cs ∈ l, cs ∈ tysL n 3 := by
  have hm : ∀ cs ∈ l, cs ∈ tysL n 3 := fun cs h => hl.subset h
  have h28 : l.length ≤ 28 := Nat.le_trans hl.length_le (types_of hn).2.2
  refine ⟨h28, ?_, hm⟩
  have key : ∀ l : List (List Nat), (∀ cs ∈ l, wsP cs 3 ≤ 2000) → tpW l ≤ l.length * 2000 := by
    intro l
    induction l with
    | nil => intro _; simp [tpW]
    | cons c l ih =>
      intro h
      have h1 := ih (fun cs hc => h cs (List.mem_cons_of_mem _ hc))
      have h2 := h c (List.mem_cons_self ..)
      have : tpW (c :: l) = wsP c 3 + tpW l := by simp [tpW]
      rw [this, List.length_cons, Nat.add_mul]
      omega
  have := key l (fun cs h => by have := (ws_in (by omega) (.inr rfl) (hm cs h)).2; omega)
  omega
/-- The sum of the chances of the first types. -/
theorem tpS_ap {row : List Nat} {ps : Nat → Rat} {n : Nat} (R : Rw row ps 3) (hn : n ≤ 6) : ∀ m, m ≤ (tysL n 3).length → Ap .f64 (tpS row ((tysL n 3).take m)) (smN (fun i => sv single (chF row ((tysL n 3)[i]?.getD []) 3)) m) ((m : Rat) * (1 / 100000000000000)) ∧ 0 ≤ smN (fun i => sv single (chF row ((tysL n 3)[i]?.getD []) 3)) m ∧ smN (fun i => sv single (chF row ((tysL n 3)[i]?.getD []) 3)) m ≤ 2 ∧ (m < (tysL n 3).length → (floatBits .add .f64 (tpS row ((tysL n 3).take m)) (up64 (chF row ((tysL n 3)[m]?.getD []) 3))).isSome = true) := by
  have mem : ∀ i, i < (tysL n 3).length → (tysL n 3)[i]?.getD [] ∈ tysL n 3 := fun i hi => by rw [List.getElem?_eq_getElem hi]; exact List.getElem_mem _
  have h28 := (types_of hn).2.2
  have pos : ∀ i, i < (tysL n 3).length → 0 ≤ sv single (chF row ((tysL n 3)[i]?.getD []) 3) := fun i hi => (ch_near R (by omega) (mem i hi)).2.2.1
  have T := ch_sum R (n := n) (by omega)
  have bound : ∀ m, m ≤ (tysL n 3).length → smN (fun i => sv single (chF row ((tysL n 3)[i]?.getD []) 3)) m ≤ 2 * smN (fun i => prX ps ((tysL n 3)[i]?.getD []) 3 3) m := by
    intro m
    induction m with
    | zero => intro _; simp only [smN]; decide +kernel
    | succ m ih =>
      intro hm
      have h1 := ih (by omega)
      obtain ⟨_, p0, _, h2⟩ := ch_near R (by omega) (mem m hm)
      have h3 := Rat.le_trans (le_av _) h2
      simp only [smN]
      generalize sv single (chF row ((tysL n 3)[m]?.getD []) 3) = a at *
      generalize prX ps ((tysL n 3)[m]?.getD []) 3 3 = b at *
      clear h2
      grind
  have top : ∀ m, m ≤ (tysL n 3).length → smN (fun i => sv single (chF row ((tysL n 3)[i]?.getD []) 3)) m ≤ 2 := by
    intro m hm
    have h1 := smN_mono (f := fun i => sv single (chF row ((tysL n 3)[i]?.getD []) 3)) pos m hm
    have h2 := bound _ (Nat.le_refl _)
    rw [T] at h2
    exact Rat.le_trans h1 (Rat.le_trans h2 (by decide +kernel))
  have step : ∀ m, m < (tysL n 3).length → Ap .f64 (tpS row ((tysL n 3).take m)) (smN (fun i => sv single (chF row ((tysL n 3)[i]?.getD []) 3)) m) ((m : Rat) * (1 / 100000000000000)) → (floatBits .add .f64 (tpS row ((tysL n 3).take m)) (up64 (chF row ((tysL n 3)[m]?.getD []) 3))).isSome = true ∧ Ap .f64 (tpS row ((tysL n 3).take (m + 1))) (smN (fun i => sv single (chF row ((tysL n 3)[i]?.getD []) 3)) (m + 1)) (((m + 1 : Nat) : Rat) * (1 / 100000000000000)) := by
    intro m hm ih
    obtain ⟨f, _, _, _⟩ := ch_near R (by omega) (mem m hm)
    obtain ⟨_, u, us⟩ := up_sv f
    have au : Ap .f64 (up64 (chF row ((tysL n 3)[m]?.getD []) 3)) (sv single (chF row ((tysL n 3)[m]?.getD []) 3)) 0 := Ap.ex (k := .f64) u us
    have hmr : (m : Rat) ≤ 28 := by
      have : (m : Rat) ≤ ((28 : Nat) : Rat) := by exact_mod_cast (show m ≤ 28 by omega)
      exact this
    have hm0 : (0 : Rat) ≤ (m : Rat) := by exact_mod_cast Nat.zero_le m
    have z := smN_nonneg (f := fun i => sv single (chF row ((tysL n 3)[i]?.getD []) 3)) (m + 1) (fun i hi => pos i (by omega))
    obtain ⟨a, b⟩ := ap_add (k := .f64) (A := 2) (E := ((m + 1 : Nat) : Rat) * (1 / 100000000000000)) ih au (by
      show av (smN (fun i => sv single (chF row ((tysL n 3)[i]?.getD []) 3)) (m + 1)) ≤ 2
      rw [av_of_nonneg z]; exact top _ hm) (by
        have hh : (3 : Rat) ≤ huge .f64 := by decide +kernel
        grind) (by
        rw [Rat.natCast_add, show ((1 : Nat) : Rat) = 1 from rfl]
        have c1 : ulp .f64 ≤ 1 / 4000000000000000 := by decide +kernel
        have c2 : tin .f64 ≤ 1 / 1000000000000000000000 := by decide +kernel
        have c3 := Rat.mul_le_mul_of_nonneg_left c1 (show 0 ≤ 2 + ((m : Rat) * (1 / 100000000000000) + 0) by grind)
        generalize ulp .f64 = p at *
        generalize tin .f64 = q at *
        grind)
    refine ⟨a, ?_⟩
    have e : (tysL n 3).take (m + 1) = (tysL n 3).take m ++ [(tysL n 3)[m]?.getD []] := by
      rw [List.take_succ_eq_append_getElem hm, List.getElem?_eq_getElem hm]; rfl
    rw [e, tpS_snoc]
    exact b
  have all : ∀ m, m ≤ (tysL n 3).length → Ap .f64 (tpS row ((tysL n 3).take m)) (smN (fun i => sv single (chF row ((tysL n 3)[i]?.getD []) 3)) m) ((m : Rat) * (1 / 100000000000000)) := by
    intro m
    induction m with
    | zero =>
      intro _
      rw [show ((0 : Nat) : Rat) = 0 from rfl, Rat.zero_mul]
      exact Ap.ex (k := .f64) (show Fnt double 0 by unfold Fnt; decide) (show sv double 0 = 0 by decide +kernel)
    | succ m ih => intro hm; exact (step m (by omega) (ih (by omega))).2
  exact fun m hm => ⟨all m hm, smN_nonneg m (fun i hi => pos i (by omega)), top m hm, fun h => (step m h (all m hm)).1⟩

end Go.Proofs.Ytmocfnpbofeiiaa
