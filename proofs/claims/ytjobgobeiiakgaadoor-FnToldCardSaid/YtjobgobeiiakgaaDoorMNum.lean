/- Numbers as texts of bits: unary, gamma, delta, Rice. -/
import Derived.Test.YtjobgobeiiakgaaDoorMTxt
import Derived.Test.YtjobgobeiiakgaaDoorShelf
namespace Go.Proofs.YtjobgobeiiakgaaDoor
set_option linter.unusedSimpArgs false
set_option linter.unusedVariables false
open Go.RowKit

theorem repeatL_one (c : UInt8) : ∀ n, Lib.repeatL [c] n = List.replicate n c
  | 0 => rfl
  | n + 1 => by rw [List.replicate_succ, ← repeatL_one c n]; rfl
theorem repeat_any (c : UInt8) (m : Nat) (w : World) (hm : m ≤ 1048576) :
    Calls Tryd.prog 31 #[.string ⟨[c].toArray⟩, .int .i64 m] w fun e w' => e = .returned (.string ⟨(List.replicate m c).toArray⟩) ∧ Below w.heap.size w w' := by
  have h := Tryd.strings_Repeat ⟨[c].toArray⟩ m w (by omega) (by rw [show (ByteArray.mk [c].toArray).size = 1 from rfl]; omega)
  rw [show (ByteArray.mk [c].toArray).data.toList = [c] from rfl, repeatL_one] at h
  exact h

theorem bitLen_blen : ∀ (f x : Nat), x < 2 ^ f → Lib.bitLenAux f x = blen x
  | 0, x, h => by
    have : x = 0 := by simpa using h
    subst this; rfl
  | f + 1, x, h => by
    unfold Lib.bitLenAux
    by_cases h0 : x = 0
    · subst h0; simp [blen]
    · simp only [h0, if_false]
      rw [bitLen_blen f (x / 2) (by rw [Nat.pow_succ] at h; omega), blen_half x (by omega), Nat.add_comm]

theorem ret_str2 {a b l : List UInt8} (h : a ++ b = l) : Ending.returned (.tuple #[.string (⟨a.toArray⟩ ++ ⟨b.toArray⟩), .bool true]) = .returned (.tuple #[.string ⟨l.toArray⟩, .bool true]) := by
  rw [ByteArray.mk_append_mk, h]
theorem ret_str3 {a b l : List UInt8} {t : Bool} (h : a ++ b = l) (ht : t = true) : Ending.returned (.tuple #[.string (⟨a.toArray⟩ ++ ⟨b.toArray⟩), .bool t]) = .returned (.tuple #[.string ⟨l.toArray⟩, .bool true]) := by
  rw [ByteArray.mk_append_mk, h, ht]
theorem ret_str1 {a b l : List UInt8} (h : a ++ b = l) : Ending.returned (.string (⟨a.toArray⟩ ++ ⟨b.toArray⟩)) = .returned (.string ⟨l.toArray⟩) := by
  rw [ByteArray.mk_append_mk, h]

def unaryT (n : Nat) : List UInt8 := List.replicate (n - 1) 49 ++ [48]
def out_UnaryOf (n : Int) : ByteArray × Bool := if inB n 1 512 then (⟨(unaryT n.toNat).toArray⟩, true) else (⟨#[]⟩, false)

set_option maxHeartbeats 400000 in
theorem impl_UnaryOf (w : World) (n : Int) (_ : I64 n) :
    Calls Tryd.prog 11 #[.int .i64 n] w fun e w' => e = .returned (.tuple #[.string (out_UnaryOf n).1, .bool (out_UnaryOf n).2]) ∧ Below w.heap.size w w' := by
  generalize ht : inB n 1 512 = t
  have HT := Lib.hid ht
  cases t
  · rw [show out_UnaryOf n = (⟨#[]⟩, false) by simp [out_UnaryOf, ht]]
    clear ht
    go_enter Tryd.func11, Tryd.ntmps11
    go_wp2_with (go_at_call 30; refine (within_any _ _ _ _).mono ?_; rw [HT.out]; rintro e w' ⟨rfl, rfl⟩)
    go_ret2
    exact ⟨rfl, Below.refl _ _⟩
  · rw [show out_UnaryOf n = (⟨(unaryT n.toNat).toArray⟩, true) by simp [out_UnaryOf, ht]]
    obtain ⟨h1, h2⟩ := inB_true ht
    obtain ⟨m, rfl⟩ : ∃ m : Nat, n = (m : Int) + 1 := ⟨(n - 1).toNat, by omega⟩
    rw [show ((m : Int) + 1).toNat = m + 1 by omega]
    have HU : Hid (unaryT (m + 1) = List.replicate m 49 ++ [48]) := rfl
    have hrl : (List.replicate m (49 : UInt8)).length ≤ 1024 := by simp; omega
    clear ht
    go_enter Tryd.func11, Tryd.ntmps11
    go_wp2_with (first | (go_at_call 30; refine (within_any _ _ _ _).mono ?_; rw [HT.out]; rintro e w' ⟨rfl, rfl⟩) | (go_at_call 31; refine (repeat_any 49 m _ (by omega)).mono ?_; generalize List.replicate m (49 : UInt8) = l at *; rintro e w1 ⟨rfl, hb⟩))
    go_ret2
    exact ⟨ret_str2 HU.out.symm, hb⟩

end Go.Proofs.YtjobgobeiiakgaaDoor
