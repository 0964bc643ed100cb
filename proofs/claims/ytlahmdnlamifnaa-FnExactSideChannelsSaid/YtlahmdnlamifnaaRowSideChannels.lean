/- FnExactSideChannels: for every input the law returns true, and each argument reads as it did: the given row, out of the walk law_SideChannels. -/
import Derived.Test.YtlahmdnlamifnaaLawSideChannels
import Derived.Test.YtlahmdnlamifnaaRd
namespace Go.Proofs.Ytlahmdnlamifnaa
set_option linter.unusedSimpArgs false
set_option linter.unusedVariables false
open Go.ChangeShapes Go.WideShapes Go.ChangeAt Go.RowKit Go.Deep Go.Joins
open Go.ChangeMaps (open_string shut_string)

namespace rowSideChannels
theorem own : ownKnob Try.prog.godebug = none := by kernel_rfl
theorem laidOut : laidOutB Try.prog = true := by kernel_rfl

set_option maxRecDepth 100000 in
theorem lifted (os : Os) (started : os.Started) (H : Type) (enc : TypeId × Value → H) :
    ReturnsInHanded {} Try.checked os 6 .any (Rows.fnExactSideChannelsSpec.pre6 enc Try.prog Try.f6 Rows.fnExactSideChannelsRow.domain false) (Rows.fnExactSideChannelsSpec.post enc Try.prog Try.f6 false true false false) := by
  refine returnsInHanded_of_change (C := Try.checked) own started (by kernel_rfl) Try.func6
    (ChangeSpec.witness6 (enc := enc) (C := Try.checked) false ⟨#[], #[.agg #[.int .i64 0, .int .i64 0, .slice none 0 0], .agg #[.int .i64 0, .int .i64 0, .slice none 0 0]], []⟩ 8 (by kernel_rfl) (by kernel_rfl) (by kernel_rfl) (by kernel_rfl)) ?_
  intro W base args ds gs before hval0 hW hcnd _
  have hval : ∀ (j : Nat) t v, Try.f6.params[j]? = some t → args[j]? = some v → Value.okWide Try.prog W .any base t v := hval0
  have hW' := hW
  obtain ⟨p, q, hA0, hV, rfl, hfz, hnd⟩ := hW
  have hA : DataW.TrodAll enc Try.prog W 0 (fun _ => true) true Try.f6.params.toList args.toList ds p := hA0
  rw [Try.params6] at hA hval
  obtain ⟨v0, vs0, d0, ds0, p0, q0, hargs, rfl, rfl, h0, r0⟩ := trodAll_cons hA
  obtain ⟨v1, vs1, d1, ds1, p1, q1, rfl, rfl, rfl, h1, r1⟩ := trodAll_cons r0
  obtain ⟨rfl, rfl, rfl⟩ := trodAll_nil r1
  obtain rfl : args = #[v0, v1] := by cases args; simp_all
  obtain ⟨rfl, rfl⟩ := trodVars_none hV
  have k0 := h0
  have lt0 : ∀ x ∈ p0, x.block < W.heap.size := by obtain ⟨m, hm⟩ := k0; exact DataW.trod_lt m _ _ _ hm
  have ok0 := hval 0 31 v0 rfl rfl
  obtain ⟨ui0, uj0, u0, yi0, yj0, y0, fu0, rfl, _, _, hfi0, hfj0, hf0⟩ := open_agg3 Try.underlying31 (by kernel_rfl) (by kernel_rfl) ok0 h0
  obtain ⟨i0, ei0, _, wi0⟩ := DataW.trod_int Try.underlying2 hfi0
  simp only [List.cons.injEq, and_true] at ei0
  subst ei0
  obtain ⟨j0, ej0, _, wj0⟩ := DataW.trod_int Try.underlying2 hfj0
  simp only [List.cons.injEq, and_true] at ej0
  subst ej0
  obtain ⟨a0, c0, xs0, rfl, l0, m0, s0, w0⟩ := rd_flts Try.underlying23 Try.underlying22 (by kernel_rfl) hf0
  have k1 := h1
  have lt1 : ∀ x ∈ p1, x.block < W.heap.size := by obtain ⟨m, hm⟩ := k1; exact DataW.trod_lt m _ _ _ hm
  have ok1 := hval 1 31 v1 rfl rfl
  obtain ⟨ui1, uj1, u1, yi1, yj1, y1, fu1, rfl, _, _, hfi1, hfj1, hf1⟩ := open_agg3 Try.underlying31 (by kernel_rfl) (by kernel_rfl) ok1 h1
  obtain ⟨i1, ei1, _, wi1⟩ := DataW.trod_int Try.underlying2 hfi1
  simp only [List.cons.injEq, and_true] at ei1
  subst ei1
  obtain ⟨j1, ej1, _, wj1⟩ := DataW.trod_int Try.underlying2 hfj1
  simp only [List.cons.injEq, and_true] at ej1
  subst ej1
  obtain ⟨a1, c1, xs1, rfl, l1, m1, s1, w1⟩ := rd_flts Try.underlying23 Try.underlying22 (by kernel_rfl) hf1
  clear hA0 hval0
  refine (law_SideChannels W i0 j0 (I64.of_wf wi0) (I64.of_wf wj0) a0 c0 xs0 ⟨l0, by unfold maxLen at m0; omega⟩ s0 w0 i1 j1 (I64.of_wf wi1) (I64.of_wf wj1) a1 c1 xs1 ⟨l1, by unfold maxLen at m1; omega⟩ s1 w1).mono fun e W' ⟨he, bel⟩ => ?_
  subst he
  exact ⟨_, rfl, _, _, _, [], _, [], hW', trodAll_mk1 (shut_bool Try.underlying4 _), (trodAll_cons_mk (Below.trod laidOut (by kernel_rfl) (of_decide_eq_true (by kernel_rfl)) k0 bel lt0) (trodAll_cons_mk (Below.trod laidOut (by kernel_rfl) (of_decide_eq_true (by kernel_rfl)) k1 bel lt1) trodAll_mk0)), rfl, bel.frame _, fun h => by cases h⟩
end rowSideChannels

theorem fnExactSideChannels_holds : Rows.FnExactSideChannelsSaid :=
  OpenClaim.holds_of_wide 6 Try.f6 rfl rfl rfl rfl rfl rfl rfl ⟨rfl, rfl, rfl, rfl, rfl⟩ rfl rfl rfl rfl rfl (by kernel_rfl) Try.func6 (by kernel_rfl)
    (of_decide_eq_true (by kernel_rfl)) (by unfold Func.isWrapper; first | (rw [if_pos (by decide +kernel)]; kernel_rfl) | (rw [if_neg (by decide +kernel)]; exact ⟨rfl, rfl⟩))
    (fun os started H enc _ => rowSideChannels.lifted os started H enc)
#print axioms fnExactSideChannels_holds

end Go.Proofs.Ytlahmdnlamifnaa
