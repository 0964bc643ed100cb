/- Numbers read back from their bits: what comes of a text, plain. -/
import Derived.Test.YtcgenmkgdhaejaaDoorNobC
namespace Go.Proofs.YtcgenmkgdhaejaaDoor
set_option linter.unusedSimpArgs false
set_option linter.unusedVariables false
open Go.RowKit

def txN (kind k v : Int) : List UInt8 := (numT kind k v).1.data.toList
open Classical in
/-- The number with which a text begins. -/
noncomputable def stp (kind k : Int) (r : List UInt8) : Option Int := if h : ∃ n, (numT kind k n).2 = true ∧ txN kind k n <+: r then some (Classical.choose h) else none
theorem stp_is {kind k : Int} {r : List UInt8} {v : Int} (h : stp kind k r = some v) : (numT kind k v).2 = true ∧ txN kind k v <+: r := by
  unfold stp at h
  split at h
  · rename_i hx
    cases h
    exact Classical.choose_spec hx
  · cases h
theorem stp_some {kind k : Int} {r : List UInt8} {v : Int} (hc : Cand kind k r v) (h1 : (numT kind k v).2 = true) (h2 : txN kind k v <+: r) : stp kind k r = some v := by
  cases h : stp kind k r with
  | none =>
    unfold stp at h
    rw [dif_pos ⟨v, h1, h2⟩] at h
    cases h
  | some u =>
    obtain ⟨a, b⟩ := stp_is h
    rw [hc u a b]
theorem stp_none {kind k : Int} {r : List UInt8} {v : Int} (hc : Cand kind k r v) (h : ¬ ((numT kind k v).2 = true ∧ txN kind k v <+: r)) : stp kind k r = none := by
  cases h2 : stp kind k r with
  | none => rfl
  | some u =>
    obtain ⟨a, b⟩ := stp_is h2
    have e := hc u a b
    subst e
    exact absurd ⟨a, b⟩ h
theorem txN_pos {kind k v : Int} (h : (numT kind k v).2 = true) : 1 ≤ (txN kind k v).length := by
  unfold txN
  unfold numT at h ⊢
  have hnum : ∀ T : Nat → List UInt8, (∀ m, 1 ≤ m → 1 ≤ (T m).length) → (outNum v T).2 = true → 1 ≤ (outNum v T).1.data.toList.length := by
    intro T hT ho
    unfold outNum at ho ⊢
    by_cases hb : inB v 1 1000000 = true
    · rw [if_pos hb]
      have h1 := inB_true hb
      have := hT v.toNat (by omega)
      simpa using this
    · rw [if_neg hb] at ho; cases ho
  have hg : ∀ m, 1 ≤ m → 1 ≤ (gammaT m).length := fun m hm => by
    have := blen_pos m hm
    unfold gammaT
    rw [List.length_append, digs_length]; omega
  split at h
  · rw [if_pos (by assumption)]
    unfold out_UnaryOf at h ⊢
    split at h
    · rw [if_pos (by assumption)]; simp [unaryT]
    · cases h
  · rw [if_neg (by assumption)]
    split at h
    · rw [if_pos (by assumption)]; exact hnum gammaT hg h
    · rw [if_neg (by assumption)]
      split at h
      · rw [if_pos (by assumption)]
        exact hnum deltaT (fun m hm => by
          have := hg (blen m) (blen_pos m hm)
          unfold deltaT
          rw [List.length_append]; omega) h
      · rw [if_neg (by assumption)]
        split at h
        · rw [if_pos (by assumption)]
          exact hnum fibT (fun m _ => by unfold fibT; simp) h
        · rw [if_neg (by assumption)]
          unfold out_RiceOf at h ⊢
          split at h
          · rw [if_pos (by assumption)]
            unfold riceO at h ⊢
            split at h
            · rw [if_pos (by assumption)]
              simp only [decide_eq_true_eq] at h
              rw [if_pos h]
              simp [riceT, unaryT]
              generalize (v.toNat - 1) / 2 ^ k.toNat = q
              omega
            · cases h
          · cases h
/-- What has been read behind n numbers: the place, the numbers. -/
noncomputable def ncN (kind k : Int) (l : List UInt8) : Nat → Nat × List Int
  | 0 => (0, [])
  | n + 1 => match stp kind k (l.drop (ncN kind k l n).1) with
    | some v => ((ncN kind k l n).1 + (txN kind k v).length, (ncN kind k l n).2 ++ [v])
    | none => ncN kind k l n
theorem ncN_some {kind k : Int} {l : List UInt8} {n : Nat} {v : Int} (h : stp kind k (l.drop (ncN kind k l n).1) = some v) : ncN kind k l (n + 1) = ((ncN kind k l n).1 + (txN kind k v).length, (ncN kind k l n).2 ++ [v]) := by
  rw [ncN, h]
theorem ncN_none {kind k : Int} {l : List UInt8} {n : Nat} (h : stp kind k (l.drop (ncN kind k l n).1) = none) : ncN kind k l (n + 1) = ncN kind k l n := by
  rw [ncN, h]
theorem ncN_le {kind k : Int} {l : List UInt8} : ∀ n, (ncN kind k l n).1 ≤ l.length
  | 0 => Nat.zero_le _
  | n + 1 => by
    have ih := ncN_le (kind := kind) (k := k) (l := l) n
    cases h : stp kind k (l.drop (ncN kind k l n).1) with
    | none => rw [ncN_none h]; exact ih
    | some v =>
      rw [ncN_some h]
      have := List.IsPrefix.length_le (stp_is h).2
      rw [List.length_drop] at this
      show _ + _ ≤ _
      omega
theorem ncN_stop {kind k : Int} {l : List UInt8} {n : Nat} (h : stp kind k (l.drop (ncN kind k l n).1) = none) : ∀ d, ncN kind k l (n + d) = ncN kind k l n
  | 0 => rfl
  | d + 1 => by
    have ih := ncN_stop h d
    rw [← Nat.add_assoc, ncN_none (by rw [ih]; exact h), ih]
theorem ncN_len {kind k : Int} {l : List UInt8} : ∀ n, (ncN kind k l n).2.length ≤ n
  | 0 => Nat.le_refl _
  | n + 1 => by
    have ih := ncN_len (kind := kind) (k := k) (l := l) n
    cases h : stp kind k (l.drop (ncN kind k l n).1) with
    | none => rw [ncN_none h]; omega
    | some v => rw [ncN_some h]; simp; omega
theorem stp_end (kind k : Int) (l : List UInt8) : stp kind k (l.drop l.length) = none := by
  cases h : stp kind k (l.drop l.length) with
  | none => rfl
  | some v =>
    obtain ⟨a, b⟩ := stp_is h
    have h1 := txN_pos a
    have h2 := List.IsPrefix.length_le b
    rw [List.length_drop] at h2
    omega
theorem ncN_ge {kind k : Int} {l : List UInt8} : ∀ n, (∀ j, j < n → ∃ v, stp kind k (l.drop (ncN kind k l j).1) = some v) → n ≤ (ncN kind k l n).1
  | 0, _ => Nat.zero_le _
  | n + 1, h => by
    have ih := ncN_ge n (fun j hj => h j (by omega))
    obtain ⟨v, hv⟩ := h n (by omega)
    rw [ncN_some hv]
    have := txN_pos (stp_is hv).1
    show n + 1 ≤ _ + _
    omega
/-- What comes of a text. -/
noncomputable def ncR (kind k : Int) (l : List UInt8) : List Int × Bool := if (ncN kind k l l.length).1 = l.length then ((ncN kind k l l.length).2, true) else ([], false)
theorem ncR_end {kind k : Int} {l : List UInt8} {n : Nat} (hs : ∀ j, j < n → ∃ v, stp kind k (l.drop (ncN kind k l j).1) = some v) (h : (ncN kind k l n).1 = l.length) : ncR kind k l = ((ncN kind k l n).2, true) := by
  have hg := ncN_ge n hs
  have h1 : stp kind k (l.drop (ncN kind k l n).1) = none := by rw [h]; exact stp_end kind k l
  have h2 := ncN_stop h1 (l.length - n)
  rw [show n + (l.length - n) = l.length by omega] at h2
  unfold ncR
  rw [h2, if_pos h]
theorem ncR_bad {kind k : Int} {l : List UInt8} {n : Nat} (hs : ∀ j, j < n → ∃ v, stp kind k (l.drop (ncN kind k l j).1) = some v) (hlt : (ncN kind k l n).1 < l.length) (h1 : stp kind k (l.drop (ncN kind k l n).1) = none) : ncR kind k l = ([], false) := by
  have hg := ncN_ge n hs
  have h2 := ncN_stop h1 (l.length - n)
  rw [show n + (l.length - n) = l.length by omega] at h2
  unfold ncR
  rw [h2, if_neg (by omega)]

end Go.Proofs.YtcgenmkgdhaejaaDoor
