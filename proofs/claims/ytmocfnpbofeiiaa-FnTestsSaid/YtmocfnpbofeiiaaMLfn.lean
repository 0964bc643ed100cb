/- Channels that lose letters, flip them, or make the next ones of them: the program's part. -/
import Derived.Test.YtmocfnpbofeiiaaMMad
namespace Go.Proofs.Ytmocfnpbofeiiaa
set_option linter.unusedSimpArgs false
set_option linter.unusedVariables false
open Go.RowKit

def shB (x : Nat) : Bool := decide (x ≤ 1065353216 ∨ x = 2147483648)
def sub1 (x : Nat) : Nat := fA .sub .f32 1065353216 x
theorem sub1_some {x : Nat} (h : shB x = true) : (floatBits .sub .f32 1065353216 x).isSome = true := by
  rcases of_decide_eq_true h with h | h
  · exact (sub_one (s := x) (by omega)).2.1
  · subst h; decide +kernel
theorem sh_ch {x : Nat} (h : shB x = true) : Ch x := by
  rcases of_decide_eq_true h with h | h
  · exact .inl (by omega)
  · exact .inr h
theorem fA_lt {op : BinOp} {x y : Nat} (h : (floatBits op .f32 x y).isSome = true) : fA op .f32 x y < 4294967296 := by
  have h2 := fA_wf h
  simp [Lit.wf] at h2
  exact h2
def fLose (x n i k : Nat) : Nat := if k = i then sub1 x else if k = n then x else 0
def fNext (x n i k : Nat) : Nat := if k = i then sub1 x else if k = (i + 1) % n then x else 0
def fFlip (x n i k : Nat) : Nat := if i = k then sub1 x else fA .quo .f32 x (floatOfInt .f32 ((n - 1 : Nat) : Int))
theorem part_some {x n : Nat} (h : shB x = true) (h1 : 2 ≤ n) (h2 : n ≤ 8) : (floatBits .quo .f32 x (floatOfInt .f32 ((n - 1 : Nat) : Int))).isSome = true := by
  have hn : n - 1 = 1 ∨ n - 1 = 2 ∨ n - 1 = 3 ∨ n - 1 = 4 ∨ n - 1 = 5 ∨ n - 1 = 6 ∨ n - 1 = 7 := by omega
  refine (div_ch (sh_ch h) ?_ ?_).1
  · rcases hn with e | e | e | e | e | e | e <;> rw [e] <;> decide +kernel
  · rcases hn with e | e | e | e | e | e | e <;> rw [e] <;> decide +kernel
theorem sub1_lt {x : Nat} (h : shB x = true) : sub1 x < 4294967296 := fA_lt (sub1_some h)
theorem sh_lt {x : Nat} (h : shB x = true) : x < 4294967296 := by
  rcases of_decide_eq_true h with h | h <;> omega
theorem fLose_lt {x : Nat} (h : shB x = true) (n i k : Nat) : fLose x n i k < 4294967296 := by
  unfold fLose
  split
  · exact sub1_lt h
  · split
    · exact sh_lt h
    · omega
theorem fNext_lt {x : Nat} (h : shB x = true) (n i k : Nat) : fNext x n i k < 4294967296 := by
  unfold fNext
  split
  · exact sub1_lt h
  · split
    · exact sh_lt h
    · omega
theorem fFlip_lt {x n : Nat} (h : shB x = true) (h1 : 2 ≤ n) (h2 : n ≤ 8) (i k : Nat) : fFlip x n i k < 4294967296 := by
  unfold fFlip
  split
  · exact sub1_lt h
  · exact fA_lt (part_some h h1 h2)
def out_LoseChannel (l : Int) (x : Nat) : Int × Int × List Nat × Bool := if inB l 1 7 && shB x then outCh l (l + 1) (chA (fLose x l.toNat) (l.toNat + 1) l.toNat) else (0, 0, [], false)
def out_NextChannel (l : Int) (x : Nat) : Int × Int × List Nat × Bool := if inB l 2 8 && shB x then outCh l l (chA (fNext x l.toNat) l.toNat l.toNat) else (0, 0, [], false)
def out_FlipChannel (l : Int) (x : Nat) : Int × Int × List Nat × Bool := if inB l 2 8 && shB x then outCh l l (chA (fFlip x l.toNat) l.toNat l.toNat) else (0, 0, [], false)
theorem len_LoseChannel (l : Int) (_ : I64 l) (x : Nat) (_ : x < 4294967296) : (out_LoseChannel l x).2.2.1.length ≤ 1048576 := by
  unfold out_LoseChannel
  split
  · rename_i h
    rw [Bool.and_eq_true] at h
    have := inB_true h.1
    refine outCh_len _ _ _ ?_
    rw [chA_length]
    have : l.toNat * (l.toNat + 1) ≤ 8 * 8 := Nat.mul_le_mul (by omega) (by omega)
    omega
  · exact Nat.zero_le _
theorem len_NextChannel (l : Int) (_ : I64 l) (x : Nat) (_ : x < 4294967296) : (out_NextChannel l x).2.2.1.length ≤ 1048576 := by
  unfold out_NextChannel
  split
  · rename_i h
    rw [Bool.and_eq_true] at h
    have := inB_true h.1
    refine outCh_len _ _ _ ?_
    rw [chA_length]
    have : l.toNat * l.toNat ≤ 8 * 8 := Nat.mul_le_mul (by omega) (by omega)
    omega
  · exact Nat.zero_le _
theorem len_FlipChannel (l : Int) (_ : I64 l) (x : Nat) (_ : x < 4294967296) : (out_FlipChannel l x).2.2.1.length ≤ 1048576 := by
  unfold out_FlipChannel
  split
  · rename_i h
    rw [Bool.and_eq_true] at h
    have := inB_true h.1
    refine outCh_len _ _ _ ?_
    rw [chA_length]
    have : l.toNat * l.toNat ≤ 8 * 8 := Nat.mul_le_mul (by omega) (by omega)
    omega
  · exact Nat.zero_le _

end Go.Proofs.Ytmocfnpbofeiiaa
