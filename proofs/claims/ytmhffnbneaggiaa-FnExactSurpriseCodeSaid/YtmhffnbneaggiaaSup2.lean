/- Surprise codes: the lengths of the words, plain. -/
import Derived.Test.YtmhffnbneaggiaaSup
import Derived.Test.YtmhffnbneaggiaaWrdP
namespace Go.Proofs.Ytmhffnbneaggiaa
set_option linter.unusedSimpArgs false
set_option linter.unusedVariables false
open Go.RowKit

/-- The number n lies below s. -/
def ltB (s n : Nat) : Bool := FloatKind.f32.format.order (floatOfInt .f32 (n : Int)) s == some .lt
theorem lt_stop {s : Nat} (h : Bd .f32 17 s) : ltB s 262144 = false := by
  have hf : Fnt Ieee.single s := h.fnt (by decide)
  have hw : floatOfInt .f32 ((262144 : Nat) : Int) = 1216348160 := by decide +kernel
  have hg : Fnt Ieee.single 1216348160 := fin_of_lt _ (by rw [s_inf]; omega)
  unfold ltB
  rw [hw]
  have e := (order_fin hg hf).1
  have v : sv Ieee.single 1216348160 = pv 1 18 := by decide +kernel
  have h2 : av (sv Ieee.single s) ≤ pv 1 17 := h
  have h3 : sv Ieee.single s ≤ av (sv Ieee.single s) := by unfold av; split <;> grind
  have h4 : pv 1 17 < pv 1 18 := by decide +kernel
  rw [show FloatKind.f32.format = Ieee.single from rfl]
  cases ho : (Ieee.single.order 1216348160 s == some .lt)
  · rfl
  · exfalso
    have h5 := e.1 (by simpa using ho)
    rw [v] at h5
    grind
/-- The first number from n on that does not lie below s, or n + f. -/
def upTo (s : Nat) : Nat → Nat → Nat
  | 0, n => n
  | f + 1, n => if ltB s n then upTo s f (n + 1) else n
theorem upTo_min (s : Nat) : ∀ (f g n : Nat), f ≤ g → upTo s f n = min (upTo s g n) (n + f) := by
  intro f
  induction f with
  | zero =>
    intro g n _
    have h : ∀ (g n : Nat), n ≤ upTo s g n := by
      intro g
      induction g with
      | zero => intro n; exact Nat.le_refl _
      | succ g ih => intro n; unfold upTo; split; exact Nat.le_of_succ_le (ih (n + 1)); exact Nat.le_refl _
    have := h g n
    show n = _
    omega
  | succ f ih =>
    intro g n hg
    obtain ⟨g, rfl⟩ : ∃ g', g = g' + 1 := ⟨g - 1, by omega⟩
    unfold upTo
    split
    · rw [ih g (n + 1) (by omega)]; omega
    · omega
def long1 (x : Nat) : Nat := upTo (suF x) 262143 1
def long2 (x : Nat) : Nat := upTo (suF x) 199 1
theorem long_min (x : Nat) : long2 x = min (long1 x) 200 := upTo_min _ 199 262143 1 (by omega)
theorem upTo_pos (s : Nat) : ∀ (f n : Nat), n ≤ upTo s f n ∧ upTo s f n ≤ n + f := by
  intro f
  induction f with
  | zero => intro n; exact ⟨Nat.le_refl _, Nat.le_refl _⟩
  | succ f ih =>
    intro n
    unfold upTo
    split
    · have := ih (n + 1); omega
    · omega
def longs1 (xs : List Nat) : List Int := xs.map (fun x => (long1 x : Int))
def longs2 (xs : List Nat) : List Int := xs.map (fun x => (long2 x : Int))
theorem longs_same (xs : List Nat) : (validC (longs1 xs) = true ∧ longs2 xs = longs1 xs) ∨ (validC (longs1 xs) = false ∧ validC (longs2 xs) = false) := by
  by_cases h : ∀ x ∈ xs, long1 x ≤ 32
  · have e : longs2 xs = longs1 xs := by
      unfold longs2 longs1
      exact List.map_congr_left (fun x hx => by rw [long_min, Nat.min_eq_left (by have := h x hx; omega)])
    cases hv : validC (longs1 xs)
    · exact .inr ⟨rfl, by rw [e]; exact hv⟩
    · exact .inl ⟨rfl, e⟩
  · refine .inr ?_
    obtain ⟨x, hx, hl⟩ : ∃ x, x ∈ xs ∧ ¬ long1 x ≤ 32 := by
      apply Classical.byContradiction
      intro hn
      exact h (fun x hx => Classical.byContradiction (fun hl => hn ⟨x, hx, hl⟩))
    have key : ∀ zs : List Int, (∃ z ∈ zs, 32 < z) → validC zs = false := by
      intro zs ⟨z, hz, h32⟩
      cases hv : validC zs
      · rfl
      · obtain ⟨-, -, p3, -⟩ := vC_parts hv
        have := inB_true (List.all_eq_true.1 p3 z hz)
        omega
    refine ⟨key _ ⟨(long1 x : Int), List.mem_map.2 ⟨x, hx, rfl⟩, by omega⟩, key _ ⟨(long2 x : Int), List.mem_map.2 ⟨x, hx, rfl⟩, ?_⟩⟩
    rw [long_min]
    omega

end Go.Proofs.Ytmhffnbneaggiaa
