/- How slices of slices among the arguments read. -/
import Derived.Test.YtlahmdnlamifnaaRd
import Derived.Test.YtlahmdnlamifnaaHmx
namespace Go.Proofs.Ytlahmdnlamifnaa
set_option linter.unusedSimpArgs false
set_option linter.unusedVariables false
open Go.ChangeShapes Go.WideShapes Go.ChangeAt Go.RowKit Go.Deep Go.Joins

theorem lists_of {α : Type} {W : World} {f : α → Value} {q : α → Prop} : ∀ (vs : List Value), (∀ z ∈ vs, ∃ xs : List α, SlR W z (xs.map f) ∧ ∀ x ∈ xs, q x) →
    ∃ xss : List (List α), vs.length = xss.length ∧ (∀ (k : Nat) (xs : List α), xss[k]? = some xs → ∃ u, vs[k]? = some u ∧ SlR W u (xs.map f)) ∧ ∀ ls ∈ xss, ∀ x ∈ ls, q x
  | [], _ => ⟨[], rfl, fun k xs h => by simp at h, by simp⟩
  | v :: vs, h => by
    obtain ⟨xss, h1, h2, h3⟩ := lists_of vs (fun z hz => h z (List.mem_cons_of_mem _ hz))
    obtain ⟨xs, a, b⟩ := h v (List.mem_cons_self ..)
    refine ⟨xs :: xss, by simp [h1], fun k ys hk => ?_, fun ls hls => ?_⟩
    · cases k with
      | zero =>
        simp only [List.getElem?_cons_zero, Option.some.injEq] at hk
        subst hk
        exact ⟨v, rfl, a⟩
      | succ k =>
        simp only [List.getElem?_cons_succ] at hk ⊢
        exact h2 k ys hk
    · rcases List.mem_cons.1 hls with rfl | hm
      · exact b
      · exact h3 ls hm

section
variable {H : Type} {enc : TypeId × Value → H} {P : Program} {W : World}
theorem rd_mx {α : Type} (f : α → Value) (q : α → Prop) {t e : TypeId} {fuel : Nat} {v : Value} {x : DataW H × List MemPlace} (ht : P.underlying t = some (.slice e)) (hc : P.cellsOf e = 1)
    (hel : ∀ (n : Nat) (u : Value) (y : DataW H × List MemPlace), DataW.trod enc P W 0 (fun _ => true) true n e [u] = some y → ∃ xs : List α, SlR W u (xs.map f) ∧ ∀ x ∈ xs, q x)
    (h : DataW.trod enc P W 0 (fun _ => true) true fuel t [v] = some x) :
    ∃ (a : Option Addr) (c : Nat) (xss : List (List α)), v = .slice a xss.length c ∧ xss.length ≤ c ∧ c ≤ maxLen ∧ MxR W f v xss ∧ ∀ ls ∈ xss, ∀ x ∈ ls, q x := by
  obtain ⟨a, c, vs, hv, h1, h2, h3, h4⟩ := rd_slice id (fun u => ∃ xs : List α, SlR W u (xs.map f) ∧ ∀ x ∈ xs, q x) ht hc (fun n u y hy => ⟨u, rfl, hel n u y hy⟩) h
  rw [List.map_id] at h3
  obtain ⟨xss, g1, g2, g3⟩ := lists_of vs h4
  exact ⟨a, c, xss, by rw [hv, g1], by omega, h2, ⟨vs, h3, g1, g2⟩, g3⟩
theorem rd_intss {t e i : TypeId} {fuel : Nat} {v : Value} {x : DataW H × List MemPlace} (ht : P.underlying t = some (.slice e)) (he : P.underlying e = some (.slice i)) (hi : P.underlying i = some (.int .i64)) (hc : P.cellsOf e = 1) (hci : P.cellsOf i = 1)
    (h : DataW.trod enc P W 0 (fun _ => true) true fuel t [v] = some x) :
    ∃ (a : Option Addr) (c : Nat) (xss : List (List Int)), v = .slice a xss.length c ∧ xss.length ≤ c ∧ c ≤ maxLen ∧ MxR W (Value.int .i64) v xss ∧ ∀ ls ∈ xss, ∀ x ∈ ls, I64 x :=
  rd_mx (Value.int .i64) I64 ht hc (fun n u y hy => by obtain ⟨_, _, xs, _, _, _, hs, hq⟩ := rd_ints he hi hci hy; exact ⟨xs, hs, hq⟩) h
theorem rd_fltss {t e i : TypeId} {fuel : Nat} {v : Value} {x : DataW H × List MemPlace} (ht : P.underlying t = some (.slice e)) (he : P.underlying e = some (.slice i)) (hi : P.underlying i = some (.float .f32)) (hc : P.cellsOf e = 1) (hci : P.cellsOf i = 1)
    (h : DataW.trod enc P W 0 (fun _ => true) true fuel t [v] = some x) :
    ∃ (a : Option Addr) (c : Nat) (xss : List (List Nat)), v = .slice a xss.length c ∧ xss.length ≤ c ∧ c ≤ maxLen ∧ MxR W (Value.float .f32) v xss ∧ ∀ ls ∈ xss, ∀ x ∈ ls, x < 4294967296 :=
  rd_mx (Value.float .f32) (fun x => x < 4294967296) ht hc (fun n u y hy => by obtain ⟨_, _, xs, _, _, _, hs, hq⟩ := rd_flts he hi hci hy; exact ⟨xs, hs, hq⟩) h
end

end Go.Proofs.Ytlahmdnlamifnaa
