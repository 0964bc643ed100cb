/- The texts of complex numbers, plain. -/
import Derived.Test.YtimhljcebeiofaaGreatDoorPrS
import Derived.Test.YtimhljcebeiofaaGreatDoorFw
import Derived.Test.YtimhljcebeiofaaGreatDoorFlt
namespace Go.Proofs.YtimhljcebeiofaaGreatDoor
set_option linter.unusedSimpArgs false
set_option linter.unusedVariables false
open Go.Lib
/-- A number's bits, of all that are no numbers the same. -/
def bC (x : Nat) : Nat := if nanB x then 2143289344 else x
theorem bC_bC (x : Nat) : bC (bC x) = bC x := by
  unfold bC
  by_cases h : nanB x = true
  · rw [if_pos h, if_pos (show nanB 2143289344 = true by decide)]
  · rw [if_neg h, if_neg h]
theorem bC_lt {x : Nat} (h : x < 4294967296) : bC x < 4294967296 := by unfold bC; split <;> omega
def cC (c : Nat × Nat) : Nat × Nat := (bC c.1, bC c.2)
def pcL (c : Nat × Nat) : List UInt8 := hex8 (bC c.1) ++ hex8 (bC c.2)
def noneL : List UInt8 := [110, 111, 110, 101]
def txL (cs : List (Nat × Nat)) : List UInt8 := if cs.length = 0 then noneL else join (cs.map pcL) [44]
def Wd (cs : List (Nat × Nat)) : Prop := ∀ c ∈ cs, c.1 < 4294967296 ∧ c.2 < 4294967296
theorem pcL_len {c : Nat × Nat} (h : c.1 < 4294967296 ∧ c.2 < 4294967296) : (pcL c).length = 16 := by
  unfold pcL; rw [List.length_append, hex8_len (bC_lt h.1), hex8_len (bC_lt h.2)]
theorem pcL_take {c : Nat × Nat} (h : c.1 < 4294967296 ∧ c.2 < 4294967296) : (pcL c).take 8 = hex8 (bC c.1) ∧ (pcL c).drop 8 = hex8 (bC c.2) := by
  have := hex8_len (bC_lt h.1)
  unfold pcL
  exact ⟨by rw [List.take_append_of_le_length (by omega), List.take_of_length_le (by omega)], by rw [List.drop_append_of_le_length (by omega), List.drop_of_length_le (by omega), List.nil_append]⟩
theorem pcL_comma (c : Nat × Nat) : ∀ x ∈ pcL c, x ≠ 44 := by
  intro x hx
  rcases List.mem_append.1 hx with h | h
  · exact hex8_comma _ x h
  · exact hex8_comma _ x h
theorem pcL_cC (c : Nat × Nat) : pcL (cC c) = pcL c := by unfold pcL cC; rw [bC_bC, bC_bC]
theorem txL_cC (cs : List (Nat × Nat)) : txL (cs.map cC) = txL cs := by
  unfold txL
  rw [List.length_map, List.map_map]
  congr 2
  exact List.map_congr_left fun c _ => pcL_cC c
theorem txL_split {cs : List (Nat × Nat)} (h : cs.length ≠ 0) : count (txL cs) [44] + 1 = cs.length ∧ splitK [44] 0 (count (txL cs) [44]) (txL cs) = cs.map pcL := by
  have := split_join (cs.map pcL) (by intro hc; rw [List.map_eq_nil_iff] at hc; rw [hc] at h; exact h rfl) (fun p hp => by
    obtain ⟨c, _, rfl⟩ := List.mem_map.1 hp
    exact pcL_comma c)
  rw [List.length_map] at this
  unfold txL
  rw [if_neg h]
  exact this
theorem txL_len : ∀ {cs : List (Nat × Nat)}, Wd cs → cs.length ≠ 0 → (txL cs).length + 1 = 17 * cs.length := by
  intro cs hw h0
  unfold txL
  rw [if_neg h0]
  match cs, h0 with
  | c :: r, _ =>
    rw [List.map_cons, join_length]
    have e : ∀ l : List (Nat × Nat), (∀ c ∈ l, c.1 < 4294967296 ∧ c.2 < 4294967296) → lens (l.map pcL) = 16 * l.length := by
      intro l
      induction l with
      | nil => intro _; rfl
      | cons x l ih =>
        intro hl
        have := ih (fun c hc => hl c (List.mem_cons_of_mem _ hc))
        unfold lens at this ⊢
        rw [List.map_cons, List.map_cons, List.sum_cons, this, pcL_len (hl x List.mem_cons_self), List.length_cons]
        omega
    have := e (c :: r) hw
    rw [List.map_cons] at this
    rw [this, List.length_map]
    simp only [List.length_cons, List.length_nil]
    omega
theorem txL_none {cs : List (Nat × Nat)} (hw : Wd cs) (h : cs.length ≠ 0) : txL cs ≠ noneL := by
  intro hc
  have := txL_len hw h
  rw [hc] at this
  have e : noneL.length = 4 := rfl
  omega

end Go.Proofs.YtimhljcebeiofaaGreatDoor
