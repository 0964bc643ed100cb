/- Errors of tests: what comes is no NaN. -/
import Derived.Test.YtjobgobeiiakgaaTe5
namespace Go.Proofs.Ytjobgobeiiakgaa
set_option linter.unusedSimpArgs false
set_option linter.unusedVariables false
open Go.RowKit
open Ieee
theorem fin_nan {x e : Nat} (h : Bd .f32 e x) (he : e ≤ 127) : nanB x = false := by
  have hf := (fz_fin h he).1
  unfold finB at hf
  have := of_decide_eq_true hf
  unfold nanB
  exact decide_eq_false (by omega)
theorem te_bds (xs : List Nat) (ys : List Nat) (n : Int) (bar : Nat) : nanB (out_TestErrors xs ys n bar).1 = false ∧ nanB (out_TestErrors xs ys n bar).2.1 = false := by
  cases hok : teOk xs ys n bar
  · rw [outTE_no hok]; exact ⟨rfl, rfl⟩
  · unfold out_TestErrors
    rw [if_pos hok]
    unfold teOk at hok
    simp only [Bool.and_eq_true, decide_eq_true_eq] at hok
    obtain ⟨⟨⟨⟨h1, h2⟩, h3⟩, h4⟩, -⟩ := hok
    have h5 := inB_true h4
    obtain ⟨-, hax, hay, hly, -⟩ := abvB_abv h1
    obtain ⟨t1, t2⟩ := ty_of (n := n.toNat) (L := xs.length) (by omega) (by omega)
    obtain ⟨i1, i2⟩ := teF_bd (bar := bar) (n := n.toNat) (by omega) hax hay rfl hly (tysL n.toNat xs.length) t2 t1
    exact ⟨fin_nan i1 (by omega), fin_nan i2 (by omega)⟩
theorem nan0_TestErrors (xs : List Nat) (_ : ∀ x ∈ xs, x < 4294967296) (_ : xs.length ≤ 1048576) (ys : List Nat) (_ : ∀ x ∈ ys, x < 4294967296) (_ : ys.length ≤ 1048576) (n : Int) (_ : I64 n) (bar : Nat) (_ : bar < 4294967296) : nanB (out_TestErrors xs ys n bar).1 = false := (te_bds xs ys n bar).1
theorem nan1_TestErrors (xs : List Nat) (_ : ∀ x ∈ xs, x < 4294967296) (_ : xs.length ≤ 1048576) (ys : List Nat) (_ : ∀ x ∈ ys, x < 4294967296) (_ : ys.length ≤ 1048576) (n : Int) (_ : I64 n) (bar : Nat) (_ : bar < 4294967296) : nanB (out_TestErrors xs ys n bar).2.1 = false := (te_bds xs ys n bar).2

end Go.Proofs.Ytjobgobeiiakgaa
