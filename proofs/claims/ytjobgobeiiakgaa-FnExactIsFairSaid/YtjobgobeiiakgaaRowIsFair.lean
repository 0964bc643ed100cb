/- FnExactIsFair: for every input the law returns true, and each argument reads as it did: the given row, out of the walk law_IsFair. -/
import Derived.Test.YtjobgobeiiakgaaLawIsFair
import Derived.Test.YtjobgobeiiakgaaRd
namespace Go.Proofs.Ytjobgobeiiakgaa
set_option linter.unusedSimpArgs false
set_option linter.unusedVariables false
open Go.ChangeShapes Go.WideShapes Go.ChangeAt Go.RowKit Go.Deep Go.Joins
open Go.ChangeMaps (open_string shut_string)

namespace rowIsFair
theorem own : ownKnob Try.prog.godebug = none := by kernel_rfl
theorem laidOut : laidOutB Try.prog = true := by kernel_rfl

set_option maxRecDepth 100000 in
theorem lifted (os : Os) (started : os.Started) (H : Type) (enc : TypeId × Value → H) :
    ReturnsInHanded {} Try.checked os 7 .any (Rows.fnExactIsFairSpec.pre6 enc Try.prog Try.f7 Rows.fnExactIsFairRow.domain false) (Rows.fnExactIsFairSpec.post enc Try.prog Try.f7 false true false false) := by
  refine returnsInHanded_of_change (C := Try.checked) own started (by kernel_rfl) Try.func7
    (ChangeSpec.witness6 (enc := enc) (C := Try.checked) false ⟨#[], #[.agg #[.int .i64 0, .int .i64 0, .slice none 0 0]], []⟩ 8 (by kernel_rfl) (by kernel_rfl) (by kernel_rfl) (by kernel_rfl)) ?_
  intro W base args ds gs before hval0 hW hcnd _
  have hval : ∀ (j : Nat) t v, Try.f7.params[j]? = some t → args[j]? = some v → Value.okWide Try.prog W .any base t v := hval0
  have hW' := hW
  obtain ⟨p, q, hA0, hV, rfl, hfz, hnd⟩ := hW
  have hA : DataW.TrodAll enc Try.prog W 0 (fun _ => true) true Try.f7.params.toList args.toList ds p := hA0
  rw [Try.params7] at hA hval
  obtain ⟨v0, vs0, d0, ds0, p0, q0, hargs, rfl, rfl, h0, r0⟩ := trodAll_cons hA
  obtain ⟨rfl, rfl, rfl⟩ := trodAll_nil r0
  obtain rfl : args = #[v0] := by cases args; simp_all
  obtain ⟨rfl, rfl⟩ := trodVars_none hV
  have k0 := h0
  have lt0 : ∀ x ∈ p0, x.block < W.heap.size := by obtain ⟨m, hm⟩ := k0; exact DataW.trod_lt m _ _ _ hm
  have ok0 := hval 0 40 v0 rfl rfl
  obtain ⟨ui0, uj0, u0, yi0, yj0, y0, fu0, rfl, _, _, hfi0, hfj0, hf0⟩ := open_agg3 Try.underlying40 (by kernel_rfl) (by kernel_rfl) ok0 h0
  obtain ⟨i0, ei0, _, wi0⟩ := DataW.trod_int Try.underlying2 hfi0
  simp only [List.cons.injEq, and_true] at ei0
  subst ei0
  obtain ⟨j0, ej0, _, wj0⟩ := DataW.trod_int Try.underlying2 hfj0
  simp only [List.cons.injEq, and_true] at ej0
  subst ej0
  obtain ⟨a0, c0, xs0, rfl, l0, m0, s0, w0⟩ := rd_flts Try.underlying28 Try.underlying33 (by kernel_rfl) hf0
  clear hA0 hval0
  refine (law_IsFair W i0 j0 (I64.of_wf wi0) (I64.of_wf wj0) a0 c0 xs0 ⟨l0, by unfold maxLen at m0; omega⟩ s0 w0).mono fun e W' ⟨he, bel⟩ => ?_
  subst he
  exact ⟨_, rfl, _, _, _, [], _, [], hW', trodAll_mk1 (shut_bool Try.underlying4 _), (trodAll_cons_mk (Below.trod laidOut (by kernel_rfl) (of_decide_eq_true (by kernel_rfl)) k0 bel lt0) trodAll_mk0), rfl, bel.frame _, fun h => by cases h⟩
end rowIsFair

theorem fnExactIsFair_holds : Rows.FnExactIsFairSaid :=
  OpenClaim.holds_of_wide 7 Try.f7 rfl rfl rfl rfl rfl rfl rfl ⟨rfl, rfl, rfl, rfl, rfl⟩ rfl rfl rfl rfl rfl (by kernel_rfl) Try.func7 (by kernel_rfl)
    (of_decide_eq_true (by kernel_rfl)) (by unfold Func.isWrapper; first | (rw [if_pos (by decide +kernel)]; kernel_rfl) | (rw [if_neg (by decide +kernel)]; exact ⟨rfl, rfl⟩))
    (fun os started H enc _ => rowIsFair.lifted os started H enc)
#print axioms fnExactIsFair_holds

end Go.Proofs.Ytjobgobeiiakgaa
