/- Letters read back from their words: plain. -/
import Derived.Test.YtmconcfgldiceaaDoorWrdP
import Derived.Test.YtmconcfgldiceaaDoorRun
namespace Go.Proofs.YtmconcfgldiceaaDoor
set_option linter.unusedSimpArgs false
set_option linter.unusedVariables false
open Go.RowKit

/-- The bytes of a word of a list. -/
def wbx (ws : List ByteArray) (n : Nat) : List UInt8 := (ws[n]?.getD ⟨#[]⟩).data.toList
def pre (ws : List ByteArray) (r : List UInt8) (j : Nat) : Bool := (wbx ws j).isPrefixOf r
/-- The first word with which a text begins. -/
def fnd (ws : List ByteArray) (r : List UInt8) : Option Nat := (List.range ws.length).find? (pre ws r)
theorem fnd_some {ws : List ByteArray} {r : List UInt8} {k : Nat} (hk : k < ws.length) (hp : pre ws r k = true) (hn : ∀ j, j < k → pre ws r j = false) : fnd ws r = some k := by
  unfold fnd
  rw [List.find?_range_eq_some]
  exact ⟨hp, by simpa using hk, fun j hj => by simp [hn j hj]⟩
theorem fnd_none {ws : List ByteArray} {r : List UInt8} (hn : ∀ j, j < ws.length → pre ws r j = false) : fnd ws r = none := by
  unfold fnd
  rw [List.find?_eq_none]
  intro j hj
  simp [hn j (by simpa using hj)]
theorem fnd_is {ws : List ByteArray} {r : List UInt8} {k : Nat} (h : fnd ws r = some k) : k < ws.length ∧ pre ws r k = true := by
  unfold fnd at h
  exact ⟨by simpa using List.mem_of_find?_eq_some h, List.find?_some h⟩
/-- What has been read behind n letters: the place, the letters. -/
def dcN (ws : List ByteArray) (l : List UInt8) : Nat → Nat × List Int
  | 0 => (0, [])
  | n + 1 => match fnd ws (l.drop (dcN ws l n).1) with
    | some k => ((dcN ws l n).1 + (wbx ws k).length, (dcN ws l n).2 ++ [(k : Int)])
    | none => dcN ws l n
theorem dcN_some {ws : List ByteArray} {l : List UInt8} {n k : Nat} (h : fnd ws (l.drop (dcN ws l n).1) = some k) : dcN ws l (n + 1) = ((dcN ws l n).1 + (wbx ws k).length, (dcN ws l n).2 ++ [(k : Int)]) := by
  rw [dcN, h]
theorem dcN_none {ws : List ByteArray} {l : List UInt8} {n : Nat} (h : fnd ws (l.drop (dcN ws l n).1) = none) : dcN ws l (n + 1) = dcN ws l n := by
  rw [dcN, h]
theorem dcN_le {ws : List ByteArray} {l : List UInt8} : ∀ n, (dcN ws l n).1 ≤ l.length
  | 0 => Nat.zero_le _
  | n + 1 => by
    have ih := dcN_le (ws := ws) (l := l) n
    cases h : fnd ws (l.drop (dcN ws l n).1) with
    | none => rw [dcN_none h]; exact ih
    | some k =>
      rw [dcN_some h]
      have := List.IsPrefix.length_le (List.isPrefixOf_iff_prefix.1 (fnd_is h).2)
      rw [List.length_drop] at this
      show _ + _ ≤ _
      omega
theorem dcN_stop {ws : List ByteArray} {l : List UInt8} {n : Nat} (h : fnd ws (l.drop (dcN ws l n).1) = none) : ∀ d, dcN ws l (n + d) = dcN ws l n
  | 0 => rfl
  | d + 1 => by
    have ih := dcN_stop h d
    rw [← Nat.add_assoc, dcN_none (by rw [ih]; exact h), ih]
theorem dcN_len {ws : List ByteArray} {l : List UInt8} : ∀ n, (dcN ws l n).2.length ≤ n
  | 0 => Nat.le_refl _
  | n + 1 => by
    have ih := dcN_len (ws := ws) (l := l) n
    cases h : fnd ws (l.drop (dcN ws l n).1) with
    | none => rw [dcN_none h]; omega
    | some k => rw [dcN_some h]; simp; omega
/-- No word is empty. -/
def Nem (ws : List ByteArray) : Prop := ∀ k, k < ws.length → 1 ≤ (wbx ws k).length
theorem fnd_end {ws : List ByteArray} {l : List UInt8} (hw : Nem ws) : fnd ws (l.drop l.length) = none := by
  refine fnd_none fun j hj => ?_
  have := hw j hj
  unfold pre
  rw [List.drop_length]
  cases h : wbx ws j with
  | nil => rw [h] at this; simp at this
  | cons a t => rfl
theorem dcN_ge {ws : List ByteArray} {l : List UInt8} (hw : Nem ws) : ∀ n, (∀ j, j < n → ∃ k, fnd ws (l.drop (dcN ws l j).1) = some k) → n ≤ (dcN ws l n).1
  | 0, _ => Nat.zero_le _
  | n + 1, h => by
    have ih := dcN_ge hw n (fun j hj => h j (by omega))
    obtain ⟨k, hk⟩ := h n (by omega)
    rw [dcN_some hk]
    have := hw k (fnd_is hk).1
    show n + 1 ≤ _ + _
    omega
/-- What comes of a text. -/
def dcR (ws : List ByteArray) (l : List UInt8) : List Int × Bool := if (dcN ws l l.length).1 = l.length then ((dcN ws l l.length).2, true) else ([], false)
theorem dcR_end {ws : List ByteArray} {l : List UInt8} {n : Nat} (hw : Nem ws) (hs : ∀ j, j < n → ∃ k, fnd ws (l.drop (dcN ws l j).1) = some k) (h : (dcN ws l n).1 = l.length) : dcR ws l = ((dcN ws l n).2, true) := by
  have hg := dcN_ge hw n hs
  have h1 : fnd ws (l.drop (dcN ws l n).1) = none := by rw [h]; exact fnd_end hw
  have h2 := dcN_stop h1 (l.length - n)
  rw [show n + (l.length - n) = l.length by omega] at h2
  unfold dcR
  rw [h2, if_pos h]
theorem dcR_bad {ws : List ByteArray} {l : List UInt8} {n : Nat} (hw : Nem ws) (hs : ∀ j, j < n → ∃ k, fnd ws (l.drop (dcN ws l j).1) = some k) (hlt : (dcN ws l n).1 < l.length) (h1 : fnd ws (l.drop (dcN ws l n).1) = none) : dcR ws l = ([], false) := by
  have hg := dcN_ge hw n hs
  have h2 := dcN_stop h1 (l.length - n)
  rw [show n + (l.length - n) = l.length by omega] at h2
  unfold dcR
  rw [h2, if_neg (by omega)]
theorem wset_nem {xs : List Int} (h : xs.all (fun n => inB n 1 32) = true) : ∀ k, k ≤ xs.length → ∀ j, j < k → 1 ≤ (wbx (wset xs (cord xs) k) ((cord xs)[j]?.getD 0)).length
  | 0, _, j, hj => by omega
  | k + 1, hk, j, hj => by
    have hb := lenAt_bd h k (by omega)
    have hlt := cord_lt xs k (by omega)
    have hlj := cord_lt xs j (by omega)
    show 1 ≤ (wbx ((wset xs (cord xs) k).set ((cord xs)[k]?.getD 0) ⟨(digs (wnum xs (cord xs) k) (lenAt xs (cord xs) k).toNat).toArray⟩) _).length
    unfold wbx
    by_cases he : (cord xs)[j]?.getD 0 = (cord xs)[k]?.getD 0
    · rw [he, List.getElem?_set_self (by rw [wset_length]; exact hlt)]
      simp [digs_length]
      omega
    · rw [List.getElem?_set_ne (fun e => he e.symm)]
      have hjk : j ≠ k := fun e => he (by rw [e])
      exact wset_nem h k (by omega) j (by omega)
theorem words_nem {xs : List Int} (h : validC xs = true) : Nem (wordsL xs) := by
  intro k hk
  rw [wordsL_length] at hk
  obtain ⟨_, _, h3, _⟩ := vC_parts h
  have hp := ordX_perm (clt xs) id xs.length
  rw [List.map_id] at hp
  have hm : k ∈ cord xs := hp.symm.mem_iff.1 (List.mem_range.2 hk)
  obtain ⟨j, hj, hjk⟩ := List.getElem_of_mem hm
  have hjl : j < xs.length := by rw [cord_length] at hj; exact hj
  have := wset_nem h3 xs.length (Nat.le_refl _) j hjl
  rw [List.getElem?_eq_getElem hj, Option.getD_some, hjk] at this
  exact this
theorem wset_wbx {xs : List Int} (h : xs.all (fun n => inB n 1 32) = true) (k : Nat) (hk : k ≤ xs.length) : ∀ s ∈ wset xs (cord xs) k, s.size ≤ 32 := by
  induction k with
  | zero => intro s hs; rw [wset, List.mem_replicate] at hs; rw [hs.2]; exact Nat.zero_le _
  | succ k ih =>
    intro s hs
    rcases List.mem_or_eq_of_mem_set hs with h1 | h1
    · exact ih (by omega) s h1
    · rw [h1]
      have := lenAt_bd h k (by omega)
      show (digs _ _).toArray.size ≤ 32
      rw [List.size_toArray, digs_length]
      omega
theorem wbx_len {xs : List Int} (h : validC xs = true) (n : Nat) : (wbx (wordsL xs) n).length ≤ 32 := by
  obtain ⟨_, _, h3, _⟩ := vC_parts h
  unfold wbx
  by_cases hn : n < (wordsL xs).length
  · rw [List.getElem?_eq_getElem hn]
    exact wset_wbx h3 xs.length (Nat.le_refl _) _ (List.getElem_mem hn)
  · rw [List.getElem?_eq_none (by omega)]; exact Nat.zero_le _
def out_DecodeLetters (xs : List Int) (s : ByteArray) : List Int × Bool := if validC xs && bitsOk s.data.toList then dcR (wordsL xs) s.data.toList else ([], false)

end Go.Proofs.YtmconcfgldiceaaDoor
