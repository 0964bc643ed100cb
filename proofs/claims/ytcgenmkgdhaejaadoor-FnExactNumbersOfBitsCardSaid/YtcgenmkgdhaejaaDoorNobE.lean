/- Numbers read back from their bits: bounds on texts, plain. -/
import Derived.Test.YtcgenmkgdhaejaaDoorNobD
import Derived.Test.YtcgenmkgdhaejaaDoorDlt
namespace Go.Proofs.YtcgenmkgdhaejaaDoor
set_option linter.unusedSimpArgs false
set_option linter.unusedVariables false
open Go.RowKit

theorem outNum_le {v : Int} {T : Nat → List UInt8} (hT : ∀ m, m < 2 ^ 20 → (T m).length ≤ 512) : (outNum v T).1.data.toList.length ≤ 512 := by
  unfold outNum
  split
  · rename_i hb
    have h1 := inB_true hb
    have := hT v.toNat (by omega)
    simpa using this
  · simp
theorem txN_le (kind k v : Int) : (txN kind k v).length ≤ 512 := by
  unfold txN numT
  split
  · unfold out_UnaryOf
    split
    · rename_i hb
      have h1 := inB_true hb
      simp [unaryT]; omega
    · simp
  · split
    · exact outNum_le fun m hm => by have := gammaT_le m 20 hm; omega
    · split
      · exact outNum_le fun m hm => by
          have h1 := blen_le m 20 hm
          have h2 := gammaT_le (blen m) 5 (by omega)
          unfold deltaT
          rw [List.length_append, digs_length]; omega
      · split
        · exact outNum_le fun m _ => by have := fibT_length m; omega
        · unfold out_RiceOf
          split
          · unfold riceO
            split
            · split
              · simp only; simpa using by assumption
              · simp
            · simp
          · simp
theorem numT_tx (kind k v : Int) : (numT kind k v).1 = ⟨(txN kind k v).toArray⟩ := by
  unfold txN; simp
theorem ncR_len (kind k : Int) (l : List UInt8) : (ncR kind k l).1.length ≤ l.length := by
  unfold ncR
  split
  · exact ncN_len _
  · exact Nat.zero_le _
noncomputable def out_NumbersOfBits (kind k : Int) (s : ByteArray) : List Int × Bool := if inB kind 0 4 && inB k 0 20 && bitsOk s.data.toList then ncR kind k s.data.toList else ([], false)

end Go.Proofs.YtcgenmkgdhaejaaDoor
