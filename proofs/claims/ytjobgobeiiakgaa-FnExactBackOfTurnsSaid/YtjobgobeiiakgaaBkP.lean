/- The way back from turns, plain. -/
import Derived.Test.YtjobgobeiiakgaaTrP
namespace Go.Proofs.Ytjobgobeiiakgaa
set_option linter.unusedSimpArgs false
set_option linter.unusedVariables false
open Go.RowKit

/-- Where the way back is behind k steps. -/
def plc (o : List Nat) (at0 : Nat) : Nat → Nat
  | 0 => o[at0]?.getD 0
  | k + 1 => o[plc o at0 k]?.getD 0
/-- The order of a text's letters. -/
def ordB (l : List UInt8) : List Nat := ordX (ltB l) id l.length
theorem ordB_perm (l : List UInt8) : (ordB l).Perm (List.range l.length) := by
  have := ordX_perm (ltB l) id l.length
  rwa [List.map_id] at this
theorem plc_lt {o : List Nat} {n at0 : Nat} (h : o.Perm (List.range n)) (ha : at0 < n) (k : Nat) : plc o at0 k < n := by
  have hl := perm_len h
  have hg : ∀ i, i < n → o[i]?.getD 0 < n := fun i hi => by
    rw [List.getElem?_eq_getElem (by omega)]
    exact perm_lt h _ (List.getElem_mem _)
  cases k with
  | zero => exact hg _ ha
  | succ k =>
    induction k with
    | zero => exact hg _ (hg _ ha)
    | succ k ih => exact hg _ ih
/-- The text that the way back makes. -/
def bakT (l : List UInt8) (at0 : Nat) : List UInt8 := (List.range l.length).map (fun k => l[plc (ordB l) at0 k]?.getD 0)
theorem bakT_length (l : List UInt8) (a : Nat) : (bakT l a).length = l.length := by simp [bakT]
theorem bakT_take (l : List UInt8) (a k : Nat) (h : k < l.length) : (bakT l a).take (k + 1) = (bakT l a).take k ++ [l[plc (ordB l) a k]?.getD 0] := by
  rw [List.take_succ_eq_append_getElem (by rw [bakT_length]; exact h)]
  simp [bakT]
def out_BackOfTurns (s : ByteArray) (a : Int) : ByteArray × Bool :=
  if (1 ≤ s.size ∧ s.size ≤ 64) ∧ 0 ≤ a ∧ a ≤ (s.size : Int) - 1 then
    (if lastL (bakT s.data.toList a.toNat) (ordT (bakT s.data.toList a.toNat)) = s.data.toList ∧ (ordT (bakT s.data.toList a.toNat)).idxOf 0 = a.toNat then (⟨(bakT s.data.toList a.toNat).toArray⟩, true) else (⟨#[]⟩, false))
  else (⟨#[]⟩, false)
/-- What a comparison of letters says. -/
def cmpN (x y : Nat) : Int := if x < y then -1 else if y < x then 1 else 0
theorem ncmpN (x y : Nat) : decide (cmpN x y < 0) = decide (x < y) := by
  rw [decide_eq_decide]
  unfold cmpN
  split <;> (try split) <;> omega

end Go.Proofs.Ytjobgobeiiakgaa
