/- Texts of bits: strings.Trim with a set of two bytes. -/
import Derived.Test.YtjobgobeiiakgaaDoorShelf
import Derived.Shelf.Strings.SlTrimAscii
namespace Go.Proofs.YtjobgobeiiakgaaDoor
set_option linter.unusedSimpArgs false
set_option linter.unusedVariables false
open Go.RowKit

theorem trim01 (l : List UInt8) (w : World) (hl : l.length ≤ 1048576) :
    Calls Tryd.prog 63 #[.string ⟨l.toArray⟩, .string ⟨#[48, 49]⟩] w fun e w' => e = .returned (.string ⟨(Lib.trimS l [48, 49]).toArray⟩) ∧ Below w.heap.size w w' :=
  Any.strings_Trim_laid Tryd.lays160 (by kernel_rfl) ⟨l.toArray⟩ ⟨#[48, 49]⟩ w (by show l.toArray.size ≤ _; simp; omega) (by show 2 < _; decide) (ascii_of_all (by decide))
/-- A list whose letters all are of a set is trimmed away, and no other. -/
theorem dropWhile_nil {α : Type} (p : α → Bool) : ∀ l : List α, l.dropWhile p = [] ↔ l.all p = true
  | [] => by simp
  | x :: t => by
    rw [List.dropWhile_cons, List.all_cons]
    cases h : p x
    · simp
    · simpa using dropWhile_nil p t
def isBit (c : UInt8) : Bool := [48, 49].contains c
theorem trim01_nil (l : List UInt8) : Lib.trimS l [48, 49] = [] ↔ l.all isBit = true := by
  unfold Lib.trimS Lib.trimLeftS Lib.trimRightS
  rw [dropWhile_nil, List.all_reverse]
  constructor
  · intro h
    have h2 : l.reverse.dropWhile ([48, 49].contains ·) = [] := by
      cases hd : l.reverse.dropWhile ([48, 49].contains ·) with
      | nil => rfl
      | cons x t =>
        exfalso
        have h3 := List.head?_dropWhile_not ([48, 49].contains ·) l.reverse
        rw [hd] at h3 h
        simp at h3
        simp [h3] at h
    rw [dropWhile_nil, List.all_reverse] at h2
    exact h2
  · intro h
    have h2 : l.reverse.dropWhile ([48, 49].contains ·) = [] := by
      rw [dropWhile_nil, List.all_reverse]; exact h
    rw [h2]; rfl

end Go.Proofs.YtjobgobeiiakgaaDoor
