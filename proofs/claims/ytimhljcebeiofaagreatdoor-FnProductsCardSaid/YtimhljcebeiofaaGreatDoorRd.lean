/- How the arguments of a law read: slices of numbers and of texts, structs that hold one. -/
import Derived.Test.YtimhljcebeiofaaGreatDoorBase
import Derived.ProofKit
import Derived.ShutString
import Derived.ChangeOld
import Derived.Lib.SmallJoins
import Derived.Deep.Slices
namespace Go.Proofs.YtimhljcebeiofaaGreatDoor
set_option linter.unusedSimpArgs false
set_option linter.unusedVariables false
open Go.ChangeShapes Go.WideShapes Go.ChangeAt Go.RowKit Go.Deep Go.Joins

theorem list_of_fn {α : Type} (f : α → Value) (q : α → Prop) (V : Nat → Value) : ∀ (len : Nat), (∀ i, i < len → ∃ z, V i = f z ∧ q z) → ∃ xs : List α, xs.length = len ∧ ∀ i (hi : i < xs.length), V i = f xs[i] ∧ q xs[i]
  | 0, _ => ⟨[], rfl, fun i hi => by simp at hi⟩
  | len + 1, hz => by
    obtain ⟨xs, h1, h2⟩ := list_of_fn f q V len (fun i hi => hz i (by omega))
    obtain ⟨z, hz1, hz2⟩ := hz len (by omega)
    refine ⟨xs ++ [z], by simp [h1], fun i hi => ?_⟩
    by_cases hlt : i < xs.length
    · rw [List.getElem_append_left hlt]; exact h2 i hlt
    · have hie : i = xs.length := by simp at hi; omega
      subst hie
      simp [h1, hz1, hz2]

section
variable {H : Type} {enc : TypeId × Value → H} {P : Program} {W : World}

theorem rd_slice {α : Type} (f : α → Value) (q : α → Prop) {t e : TypeId} {fuel : Nat} {v : Value} {x : DataW H × List MemPlace} (ht : P.underlying t = some (.slice e)) (hc : P.cellsOf e = 1)
    (hel : ∀ (n : Nat) (u : Value) (y : DataW H × List MemPlace), DataW.trod enc P W 0 (fun _ => true) true n e [u] = some y → ∃ z, u = f z ∧ q z)
    (h : DataW.trod enc P W 0 (fun _ => true) true fuel t [v] = some x) :
    ∃ (a : Option Addr) (c : Nat) (xs : List α), v = .slice a xs.length c ∧ xs.length ≤ c ∧ c ≤ maxLen ∧ SlR W v (xs.map f) ∧ ∀ z ∈ xs, q z := by
  rcases open_slice1 ht hc h with ⟨hcs, _⟩ | ⟨a, len, cap, m, n, V, D, Pl, hcs, _, hl, hm, hmm, _, hV⟩
  · simp only [List.cons.injEq, and_true] at hcs
    subst hcs
    exact ⟨none, 0, [], rfl, Nat.le_refl _, Nat.zero_le _, SlR.nil W, by simp⟩
  · simp only [List.cons.injEq, and_true] at hcs
    subst hcs
    simp only [if_true] at hmm
    subst hmm
    have hz : ∀ i, i < len → ∃ z, V i = f z ∧ q z := fun i hi => hel n (V i) _ (hV i (by omega)).2
    obtain ⟨xs, hxl, hxs⟩ := list_of_fn f q V len hz
    subst hxl
    refine ⟨some a, m, xs, rfl, hl, hm, ⟨some a, m, by simp, by simpa using hl, hm, fun k u hu => ?_⟩, fun z hzm => ?_⟩
    · have hk : k < xs.length := by
        have := (List.getElem?_eq_some_iff.1 hu).1
        simpa using this
      have hc0 := (hV k (by omega)).1
      rw [(hxs k hk).1] at hc0
      rw [List.getElem?_map, List.getElem?_eq_getElem hk] at hu
      simp only [Option.map_some, Option.some.injEq] at hu
      rw [hu] at hc0
      obtain ⟨b, off, spot⟩ := a
      cases spot with
      | none => exact ⟨b, off, rfl, by simpa [Addr.add_lit] using hc0⟩
      | some s =>
        exfalso
        have hk0 := (hV 0 (by omega)).1
        have hsp := World.cell?_spot hk0
        simp [Addr.add] at hsp
    · obtain ⟨i, hi, rfl⟩ := List.mem_iff_getElem.1 hzm
      exact (hxs i hi).2

theorem I64.of_wf {n : Int} (h : (Lit.int .i64 n).wf = true) : I64 n := by
  simp [Lit.wf, IntKind.min, IntKind.max, IntKind.signed, IntKind.bits] at h
  unfold I64
  omega
theorem rd_ints {t e : TypeId} {fuel : Nat} {v : Value} {x : DataW H × List MemPlace} (ht : P.underlying t = some (.slice e)) (he : P.underlying e = some (.int .i64)) (hc : P.cellsOf e = 1)
    (h : DataW.trod enc P W 0 (fun _ => true) true fuel t [v] = some x) :
    ∃ (a : Option Addr) (c : Nat) (xs : List Int), v = .slice a xs.length c ∧ xs.length ≤ c ∧ c ≤ maxLen ∧ SlR W v (xs.map (Value.int .i64)) ∧ ∀ z ∈ xs, I64 z :=
  rd_slice (Value.int .i64) I64 ht hc (fun n u y hy => by
    obtain ⟨z, hz, _, hw⟩ := DataW.trod_int he hy
    simp only [List.cons.injEq, and_true] at hz
    exact ⟨z, hz, I64.of_wf hw⟩) h
end

section
variable {H : Type} {enc : TypeId × Value → H} {P : Program} {W : World}
theorem open_agg1 {r : Reach} {b0 : Nat} {t : TypeId} {f0 : Field} {v : Value} {d : DataW H} {p : List MemPlace} (hs : P.underlying t = some (.struct #[f0])) (hone : oneCellFields P #[f0] = true) (hC : P.cellsOf t = 1)
    (hv : Value.okWide P W r b0 t v) (h : DataW.Trod enc P W 0 (fun _ => true) true t v d p) :
    ∃ (v0 : Value) (y0 : DataW H × List MemPlace) (n : Nat), v = .agg #[v0] ∧ DataW.trod enc P W 0 (fun _ => true) true n f0.type [v0] = some y0 := by
  obtain ⟨cs, rfl, hsz⟩ := okWide_struct hs hv
  obtain ⟨l⟩ := cs
  match l, hsz.trans hC with
  | [c0], _ =>
    obtain ⟨fuel, hf⟩ := h
    obtain ⟨y0, n, _, _, h0⟩ := trod_struct1 hs hf
    obtain ⟨o0, k0⟩ := hone_of hone 0 f0 rfl
    exact ⟨c0, y0, n, rfl, by simpa [Value.cells, o0, k0] using h0⟩
end

theorem f32_of_wf {b : Nat} (h : (Lit.float .f32 b).wf = true) : b < 4294967296 := by
  simp [Lit.wf] at h
  exact h
section
variable {H : Type} {enc : TypeId × Value → H} {P : Program} {W : World}
theorem trod_flt {base : Nat} {spare : Nat → Bool} {held : Bool} {fuel : Nat} {t : TypeId} {cs : List Value} {x : DataW H × List MemPlace} {k : FloatKind} (ht : P.underlying t = some (.float k)) (h : DataW.trod enc P W base spare held fuel t cs = some x) : ∃ b, cs = [.float k b] ∧ x = (.lit (.float k b), []) ∧ (Lit.float k b).wf = true := by
  cases fuel with
  | zero => simp [DataW.trod] at h
  | succ n =>
    unfold DataW.trod at h
    rw [ht] at h
    split at h <;> simp_all
theorem rd_flts {t e : TypeId} {fuel : Nat} {v : Value} {x : DataW H × List MemPlace} (ht : P.underlying t = some (.slice e)) (he : P.underlying e = some (.float .f32)) (hc : P.cellsOf e = 1)
    (h : DataW.trod enc P W 0 (fun _ => true) true fuel t [v] = some x) :
    ∃ (a : Option Addr) (c : Nat) (xs : List Nat), v = .slice a xs.length c ∧ xs.length ≤ c ∧ c ≤ maxLen ∧ SlR W v (xs.map (Value.float .f32)) ∧ ∀ z ∈ xs, z < 4294967296 :=
  rd_slice (Value.float .f32) (fun z => z < 4294967296) ht hc (fun n u y hy => by
    obtain ⟨z, hz, _, hw⟩ := trod_flt he hy
    simp only [List.cons.injEq, and_true] at hz
    exact ⟨z, hz, f32_of_wf hw⟩) h
end

end Go.Proofs.YtimhljcebeiofaaGreatDoor
