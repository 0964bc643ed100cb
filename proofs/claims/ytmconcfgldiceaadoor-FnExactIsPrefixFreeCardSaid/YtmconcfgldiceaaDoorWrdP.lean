/- The words of a code, plain: what both programs reckon out of the lengths and the order of letters. -/
import Derived.Test.YtmconcfgldiceaaDoorOrd
import Derived.Test.YtmconcfgldiceaaDoorTxtP
import Derived.Test.YtmconcfgldiceaaDoorCod
namespace Go.Proofs.YtmconcfgldiceaaDoor
set_option linter.unusedSimpArgs false
set_option linter.unusedVariables false
open Go.RowKit

theorem vC_parts {xs : List Int} (h : validC xs = true) : 1 ≤ xs.length ∧ xs.length ≤ 16 ∧ xs.all (fun n => inB n 1 32) = true ∧ kr xs ≤ 4294967296 := by
  unfold validC at h
  simp only [Bool.and_eq_true, decide_eq_true_eq] at h
  exact ⟨h.1.1.1, h.1.1.2, h.1.2, h.2⟩
/-- The length of the letter at place k of the order o. -/
def lenAt (xs : List Int) (o : List Nat) (k : Nat) : Int := xs[o[k]?.getD 0]?.getD 0
/-- The number whose digits are the word at place k of the order. -/
def wnum (xs : List Int) (o : List Nat) : Nat → Nat
  | 0 => 0
  | k + 1 => (wnum xs o k + 1) * 2 ^ (lenAt xs o (k + 1) - lenAt xs o k).toNat
/-- The words, those of the first k places of the order put. -/
def wset (xs : List Int) (o : List Nat) : Nat → List ByteArray
  | 0 => List.replicate xs.length ⟨#[]⟩
  | k + 1 => (wset xs o k).set (o[k]?.getD 0) ⟨(digs (wnum xs o k) (lenAt xs o k).toNat).toArray⟩
/-- The order of letters by their lengths. -/
def clt (xs : List Int) (x y : Nat) : Bool := decide (xs[x]?.getD 0 < xs[y]?.getD 0)
theorem clt_sw (xs : List Int) : SW (clt xs) := ⟨fun x => by simp [clt], fun x y z h1 h2 => by simp [clt] at *; omega, fun x y h => by simp [clt] at *; omega⟩
def cord (xs : List Int) : List Nat := ordX (clt xs) id xs.length
/-- The words of a code. -/
def wordsL (xs : List Int) : List ByteArray := wset xs (cord xs) xs.length
theorem wset_length (xs : List Int) (o : List Nat) (k : Nat) : (wset xs o k).length = xs.length := by
  induction k with
  | zero => simp [wset]
  | succ k ih => simp [wset, ih]
theorem wordsL_length (xs : List Int) : (wordsL xs).length = xs.length := wset_length _ _ _
theorem cord_length (xs : List Int) : (cord xs).length = xs.length := ordX_length _ _ _
theorem cord_lt (xs : List Int) (k : Nat) (h : k < xs.length) : (cord xs)[k]?.getD 0 < xs.length := ordX_lt _ _ _ h
theorem cord_srt (xs : List Int) (k : Nat) (h : k + 1 < xs.length) : lenAt xs (cord xs) k ≤ lenAt xs (cord xs) (k + 1) :=
  by
    have hs := (ordX_srt (clt_sw xs) id (fun i j h => h) xs.length k (k + 1) (by omega) (by rw [ordX_length]; exact h)).1
    change clt xs ((cord xs)[k + 1]?.getD 0) ((cord xs)[k]?.getD 0) = false at hs
    unfold clt at hs
    rw [decide_eq_false_iff_not] at hs
    unfold lenAt
    omega
theorem lenAt_bd {xs : List Int} (h : xs.all (fun n => inB n 1 32) = true) (k : Nat) (hk : k < xs.length) : 1 ≤ lenAt xs (cord xs) k ∧ lenAt xs (cord xs) k ≤ 32 := by
  have hl := cord_lt xs k hk
  unfold lenAt
  rw [List.getElem?_eq_getElem hl, Option.getD_some]
  exact inB_true (List.all_eq_true.1 h _ (List.getElem_mem hl))
theorem wnum_bd {xs : List Int} (h : xs.all (fun n => inB n 1 32) = true) (k : Nat) (hk : k < xs.length) : wnum xs (cord xs) k ≤ k * 2 ^ (lenAt xs (cord xs) k).toNat := by
  induction k with
  | zero => simp [wnum]
  | succ k ih =>
    have i := ih (by omega)
    have b1 := lenAt_bd h k (by omega)
    have b2 := lenAt_bd h (k + 1) hk
    have s := cord_srt xs k hk
    obtain ⟨p, hp⟩ : ∃ p : Nat, lenAt xs (cord xs) k = p := ⟨(lenAt xs (cord xs) k).toNat, by omega⟩
    obtain ⟨d, hd⟩ : ∃ d : Nat, lenAt xs (cord xs) (k + 1) = ((p + d : Nat) : Int) := ⟨(lenAt xs (cord xs) (k + 1)).toNat - p, by omega⟩
    have e1 : (lenAt xs (cord xs) (k + 1) - lenAt xs (cord xs) k).toNat = d := by omega
    have e2 : (lenAt xs (cord xs) k).toNat = p := by omega
    have e3 : (lenAt xs (cord xs) (k + 1)).toNat = p + d := by omega
    rw [e2] at i
    unfold wnum
    rw [e1, e3]
    have h1 : 1 ≤ 2 ^ p := Nat.one_le_two_pow
    rw [Nat.pow_add, ← Nat.mul_assoc]
    refine Nat.mul_le_mul_right _ ?_
    rw [Nat.add_mul, Nat.one_mul]
    omega
theorem wnum_le {xs : List Int} (h : xs.all (fun n => inB n 1 32) = true) (hl : xs.length ≤ 16) (k : Nat) (hk : k < xs.length) : wnum xs (cord xs) k ≤ 68719476736 := by
  have h1 := wnum_bd h k hk
  have b := lenAt_bd h k hk
  have h2 : 2 ^ (lenAt xs (cord xs) k).toNat ≤ 2 ^ 32 := Nat.pow_le_pow_right (by omega) (by omega)
  have h3 : k * 2 ^ (lenAt xs (cord xs) k).toNat ≤ 16 * 2 ^ 32 := Nat.mul_le_mul (by omega) h2
  omega

end Go.Proofs.YtmconcfgldiceaaDoor
