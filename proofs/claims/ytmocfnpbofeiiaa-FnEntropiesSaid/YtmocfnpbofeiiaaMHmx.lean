/- The harness of the laws on floats: copies, sizes, comparisons, marks; channels and tables. -/
import Derived.Test.YtmocfnpbofeiiaaMCod
import Derived.Test.YtmocfnpbofeiiaaMFw
import Derived.Deep.RegionHeld3
namespace Go.Proofs.Ytmocfnpbofeiiaa
set_option linter.unusedSimpArgs false
set_option linter.unusedVariables false
open Go.RowKit

/-- The bits that a not-a-number gets when it is made wider. -/
def nq (z : Nat) (w : World) : Nat := (w.tape w.drawn (.nanConv .f64 z) % 2) * 2 ^ 63 + 0x7ff0000000000000 + 1 + (w.tape w.drawn (.nanConv .f64 z) / 2) % (2 ^ 52 - 1)
theorem run_conv_nan (w : World) {z : Nat} (h : nanB z = true) : (convert 32 29 (.float .f32 z)).run Try.prog w = .ok (.float .f64 (nq z w)) w.drew := by
  obtain ⟨s, t, hr⟩ := nan_read h
  have hd : FloatKind.decode .f32 z = .nan s t := hr
  simp [convert, run_underlying Try.underlying32, run_underlying Try.underlying29, Conv.floatToFloat, hd, choose, Sem.run, Question.forced, Question.cut, nq]
theorem nq_nan (z : Nat) (w : World) : FloatKind.f64.format.order (nq z w) (nq z w) = none := by
  have hn : ∀ t : Nat, ∃ s u, Ieee.double.read ((t % 2) * 2 ^ 63 + 0x7ff0000000000000 + 1 + (t / 2) % (2 ^ 52 - 1)) = .nan s u := by
    intro t
    unfold Ieee.Format.read
    dsimp only
    have hb : Ieee.double.binade = 4503599627370496 := by decide
    rw [d_sw, d_inf, hb]
    have h : 9218868437227405312 < (t % 2 * 2 ^ 63 + 0x7ff0000000000000 + 1 + t / 2 % (2 ^ 52 - 1)) % 9223372036854775808 := by
      rcases Nat.mod_two_eq_zero_or_one t with h | h <;> rw [h] <;> omega
    rw [if_neg (by omega), if_neg (by omega), if_neg (by omega)]
    exact ⟨_, _, rfl⟩
  obtain ⟨s, u, hr⟩ := hn (w.tape w.drawn (.nanConv .f64 z))
  show Ieee.double.order _ _ = none
  unfold Ieee.Format.order nq
  rw [hr]; rfl

end Go.Proofs.Ytmocfnpbofeiiaa

/- The harness of the laws on floats: marks; channels and tables. -/
namespace Go.Proofs.Ytmocfnpbofeiiaa
set_option linter.unusedSimpArgs false
set_option linter.unusedVariables false
open Go.RowKit

end Go.Proofs.Ytmocfnpbofeiiaa

/- The harness of the laws for slices of slices of numbers. -/
namespace Go.Proofs.Ytmocfnpbofeiiaa
set_option linter.unusedSimpArgs false
set_option linter.unusedVariables false
open Go.RowKit

/-- 'v' is a slice of slices that read the lists of 'xss'. -/
def MxR {α : Type} (w : World) (f : α → Value) (v : Value) (xss : List (List α)) : Prop :=
  ∃ vs, SlR w v vs ∧ vs.length = xss.length ∧ ∀ (k : Nat) (xs : List α), xss[k]? = some xs → ∃ u, vs[k]? = some u ∧ SlR w u (xs.map f)
theorem MxR.below {α : Type} {w w' : World} {f : α → Value} {v : Value} {xss : List (List α)} (h : MxR w f v xss) (hb : Below w.heap.size w w') : MxR w' f v xss := by
  obtain ⟨vs, h1, h2, h3⟩ := h
  exact ⟨vs, h1.below hb, h2, fun k xs hx => by obtain ⟨u, a, b⟩ := h3 k xs hx; exact ⟨u, a, b.below hb⟩⟩
theorem MxR.fr {α : Type} {w W : World} {f : α → Value} {v : Value} {xss : List (List α)} (h : MxR w f v xss) (hb : Fr w W) : MxR W f v xss := h.below hb
theorem MxR.opened {α : Type} {w : World} {f : α → Value} {v : Value} {xss : List (List α)} (h : MxR w f v xss) :
    ∃ a n c, v = .slice a n c ∧ xss.length = n ∧ n ≤ c ∧ c ≤ maxLen ∧ ∀ k, k < n → ∃ b off ea ec, a = some ⟨b, off, none⟩ ∧ w.cell? ⟨b, off + k, none⟩ = some (.slice ea (xss[k]?.getD []).length ec) ∧ b < w.heap.size ∧ SlR w (.slice ea (xss[k]?.getD []).length ec) ((xss[k]?.getD []).map f) ∧ (xss[k]?.getD []).length ≤ maxLen := by
  obtain ⟨vs, ⟨a, c, h1, h2, h3, h4⟩, h5, h6⟩ := h
  refine ⟨a, xss.length, c, by rw [h1, h5], rfl, by omega, h3, fun k hk => ?_⟩
  obtain ⟨u, hu, hs⟩ := h6 k xss[k] (List.getElem?_eq_getElem hk)
  obtain ⟨b, off, ha, hc⟩ := h4 k u hu
  obtain ⟨ea, ec, e1, e2, e3, e4⟩ := hs
  rw [List.length_map] at e1 e2
  rw [List.getElem?_eq_getElem hk, Option.getD_some]
  refine ⟨b, off, ea, ec, ha, by rw [hc, e1], World.block_lt_of_cell? w _ hc, ⟨ea, ec, by rw [List.length_map], by rw [List.length_map]; exact e2, e3, by rw [← e1] at *; exact e4⟩, by omega⟩

/-- How many numbers the lists hold. -/
def tot {α : Type} (xss : List (List α)) : Nat := (xss.map List.length).sum
theorem tot_take_succ {α : Type} (xss : List (List α)) (k : Nat) (h : k < xss.length) : tot (xss.take (k + 1)) = tot (xss.take k) + (xss[k]?.getD []).length := by
  unfold tot
  rw [List.take_succ_eq_append_getElem h, List.map_append, List.sum_append]
  simp [List.getElem?_eq_getElem h]
theorem tot_take_le {α : Type} (xss : List (List α)) (k : Nat) : tot (xss.take k) ≤ tot xss := by
  have h : tot (xss.take k) + tot (xss.drop k) = tot xss := by
    unfold tot
    rw [← List.sum_append, ← List.map_append, List.take_append_drop]
  omega
theorem tot_mem {α : Type} (xss : List (List α)) (k : Nat) : (xss[k]?.getD []).length ≤ tot xss := by
  by_cases h : k < xss.length
  · have h1 := tot_take_succ xss k h
    have h2 := tot_take_le xss (k + 1)
    omega
  · rw [List.getElem?_eq_none (by omega)]; exact Nat.zero_le _

/-- 'v' is a slice of the call's own whose cells are slices of its own, which read the lists of 'xss'; all lie in blocks from B to B'. -/
def OwnMx {α : Type} (w : World) (B B' : Nat) (T e : TypeId) (f : α → Value) (v : Value) (xss : List (List α)) : Prop :=
  ∃ vs, w.ownsRow B T 1 v xss.length vs ∧ (∀ (k : Nat) (xs : List α), xss[k]? = some xs → ∃ u, vs[k]? = some u ∧ w.ownsRow B e 1 u xs.length (xs.map f)) ∧
    (∀ (i j : Nat) (u u' : Value) (g : Nat), i < j → vs[i]? = some u → vs[j]? = some u' → u.ownBlock = some g → u'.ownBlock ≠ some g) ∧ (∀ (i : Nat) (u : Value) (g : Nat), vs[i]? = some u → u.ownBlock = some g → v.ownBlock ≠ some g ∧ g < B')
theorem OwnMx.below {α : Type} {w w' : World} {B B' : Nat} {T e : TypeId} {f : α → Value} {v : Value} {xss : List (List α)} (h : OwnMx w B B' T e f v xss) (hb : Below w.heap.size w w') : OwnMx w' B B' T e f v xss := by
  obtain ⟨vs, h1, h2, h3, h4⟩ := h
  exact ⟨vs, ownsRow_below h1 hb, fun k xs hx => by obtain ⟨u, a, b⟩ := h2 k xs hx; exact ⟨u, a, ownsRow_below b hb⟩, h3, h4⟩
theorem OwnMx.rd {α : Type} {w : World} {B B' : Nat} {T e : TypeId} {f : α → Value} {v : Value} {xss : List (List α)} (h : OwnMx w B B' T e f v xss) : MxR w f v xss := by
  obtain ⟨vs, h1, h2, h3, h4⟩ := h
  exact ⟨vs, SlR.own h1, by simpa using h1.1, fun k xs hx => by obtain ⟨u, a, b⟩ := h2 k xs hx; exact ⟨u, a, SlR.own b⟩⟩
/-- What lies from B' on has stayed. -/
def Far (B' : Nat) (w w' : World) : Prop := ∀ k, B' ≤ k → k < w.heap.size → w'.heap[k]? = w.heap[k]?
theorem own_far {w w' : World} {b B' : Nat} {e : TypeId} {s : Nat} {v : Value} {n : Nat} {xs : List Value} (h : w.ownsRow b e s v n xs) (hb : B' ≤ b) (hf : Far B' w w') : w'.ownsRow b e s v n xs := by
  refine ⟨h.1, ?_⟩
  rcases h.2 with h2 | ⟨g, cap, cur, hv, hg, hh, r⟩
  · exact .inl h2
  · exact .inr ⟨g, cap, cur, hv, hg, by rw [hf g (by omega) (Array.getElem?_eq_some_iff.1 hh).1]; exact hh, r⟩
theorem own_kept_ne {w w' : World} {b : Nat} {e : TypeId} {s : Nat} {v u : Value} {n : Nat} {xs : List Value} (h : w.ownsRow b e s v n xs) (hg : w.grownBy w' u.ownBlock) (hne : ∀ g, u.ownBlock = some g → v.ownBlock ≠ some g) : w'.ownsRow b e s v n xs := by
  refine h.kept hg ?_
  cases hv : v.ownBlock with
  | none => exact .inl rfl
  | some g => exact .inr (fun e => hne g e.symm hv)
theorem OwnMx.apart {α : Type} {w w' : World} {B B' : Nat} {T e : TypeId} {f : α → Value} {v u : Value} {xss : List (List α)} (h : OwnMx w B B' T e f v xss) (hg : w.grownBy w' u.ownBlock) (hu : ∀ k, u.ownBlock = some k → k < B) : OwnMx w' B B' T e f v xss := by
  obtain ⟨vs, h1, h2, h3, h4⟩ := h
  exact ⟨vs, own_apart h1 hg hu, fun k xs hx => by obtain ⟨u', a, b⟩ := h2 k xs hx; exact ⟨u', a, own_apart b hg hu⟩, h3, h4⟩

end Go.Proofs.Ytmocfnpbofeiiaa
