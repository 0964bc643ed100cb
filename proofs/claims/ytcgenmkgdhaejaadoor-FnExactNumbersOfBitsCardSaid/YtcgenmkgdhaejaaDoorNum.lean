/- Numbers as texts of bits: unary, gamma, delta, Rice. -/
import Derived.Test.YtcgenmkgdhaejaaDoorTxt
import Derived.Test.YtcgenmkgdhaejaaDoorShelf
namespace Go.Proofs.YtcgenmkgdhaejaaDoor
set_option linter.unusedSimpArgs false
set_option linter.unusedVariables false
open Go.RowKit

theorem repeatL_one (c : UInt8) : ∀ n, Lib.repeatL [c] n = List.replicate n c
  | 0 => rfl
  | n + 1 => by rw [List.replicate_succ, ← repeatL_one c n]; rfl
theorem repeat_any (c : UInt8) (m : Nat) (w : World) (hm : m ≤ 1048576) :
    Calls Tryd.prog 72 #[.string ⟨[c].toArray⟩, .int .i64 m] w fun e w' => e = .returned (.string ⟨(List.replicate m c).toArray⟩) ∧ Below w.heap.size w w' := by
  have h := Tryd.strings_Repeat ⟨[c].toArray⟩ m w (by omega) (by rw [show (ByteArray.mk [c].toArray).size = 1 from rfl]; omega)
  rw [show (ByteArray.mk [c].toArray).data.toList = [c] from rfl, repeatL_one] at h
  exact h

theorem bitLen_blen : ∀ (f x : Nat), x < 2 ^ f → Lib.bitLenAux f x = blen x
  | 0, x, h => by
    have : x = 0 := by simpa using h
    subst this; rfl
  | f + 1, x, h => by
    unfold Lib.bitLenAux
    by_cases h0 : x = 0
    · subst h0; simp [blen]
    · simp only [h0, if_false]
      rw [bitLen_blen f (x / 2) (by rw [Nat.pow_succ] at h; omega), blen_half x (by omega), Nat.add_comm]

theorem ret_str2 {a b l : List UInt8} (h : a ++ b = l) : Ending.returned (.tuple #[.string (⟨a.toArray⟩ ++ ⟨b.toArray⟩), .bool true]) = .returned (.tuple #[.string ⟨l.toArray⟩, .bool true]) := by
  rw [ByteArray.mk_append_mk, h]
theorem ret_str3 {a b l : List UInt8} {t : Bool} (h : a ++ b = l) (ht : t = true) : Ending.returned (.tuple #[.string (⟨a.toArray⟩ ++ ⟨b.toArray⟩), .bool t]) = .returned (.tuple #[.string ⟨l.toArray⟩, .bool true]) := by
  rw [ByteArray.mk_append_mk, h, ht]
theorem ret_str1 {a b l : List UInt8} (h : a ++ b = l) : Ending.returned (.string (⟨a.toArray⟩ ++ ⟨b.toArray⟩)) = .returned (.string ⟨l.toArray⟩) := by
  rw [ByteArray.mk_append_mk, h]

def unaryT (n : Nat) : List UInt8 := List.replicate (n - 1) 49 ++ [48]
def out_UnaryOf (n : Int) : ByteArray × Bool := if inB n 1 512 then (⟨(unaryT n.toNat).toArray⟩, true) else (⟨#[]⟩, false)

set_option maxHeartbeats 400000 in
theorem impl_UnaryOf (w : World) (n : Int) (_ : I64 n) :
    Calls Tryd.prog 48 #[.int .i64 n] w fun e w' => e = .returned (.tuple #[.string (out_UnaryOf n).1, .bool (out_UnaryOf n).2]) ∧ Below w.heap.size w w' := by
  generalize ht : inB n 1 512 = t
  have HT := Lib.hid ht
  cases t
  · rw [show out_UnaryOf n = (⟨#[]⟩, false) by simp [out_UnaryOf, ht]]
    clear ht
    go_enter Tryd.func48, Tryd.ntmps48
    go_wp2_with (go_at_call 28; refine (within_any _ _ _ _).mono ?_; rw [HT.out]; rintro e w' ⟨rfl, rfl⟩)
    go_ret2
    exact ⟨rfl, Below.refl _ _⟩
  · rw [show out_UnaryOf n = (⟨(unaryT n.toNat).toArray⟩, true) by simp [out_UnaryOf, ht]]
    obtain ⟨h1, h2⟩ := inB_true ht
    obtain ⟨m, rfl⟩ : ∃ m : Nat, n = (m : Int) + 1 := ⟨(n - 1).toNat, by omega⟩
    rw [show ((m : Int) + 1).toNat = m + 1 by omega]
    have HU : Hid (unaryT (m + 1) = List.replicate m 49 ++ [48]) := rfl
    have hrl : (List.replicate m (49 : UInt8)).length ≤ 1024 := by simp; omega
    clear ht
    go_enter Tryd.func48, Tryd.ntmps48
    go_wp2_with (first | (go_at_call 28; refine (within_any _ _ _ _).mono ?_; rw [HT.out]; rintro e w' ⟨rfl, rfl⟩) | (go_at_call 72; refine (repeat_any 49 m _ (by omega)).mono ?_; generalize List.replicate m (49 : UInt8) = l at *; rintro e w1 ⟨rfl, hb⟩))
    go_ret2
    exact ⟨ret_str2 HU.out.symm, hb⟩

set_option maxHeartbeats 400000 in
theorem l04Numbered_no (kind k n : Int) (w : World) (hn : inB n 1 1000000 = false) :
    Calls Tryd.prog 26 #[.int .i64 kind, .int .i64 k, .int .i64 n] w fun e w' => e = .returned (.tuple #[.string ⟨#[]⟩, .bool false]) ∧ w = w' := by
  have HN := Lib.hid hn
  clear hn
  go_enter Tryd.func26, Tryd.ntmps26
  go_wp2_with (go_at_call 23; refine (l00In_any _ _ _ _).mono ?_; rw [HN.out]; rintro e w' ⟨rfl, rfl⟩)
  go_ret2
  exact ⟨rfl, rfl⟩

set_option maxHeartbeats 400000 in
theorem l04Numbered_nok (kind k n : Int) (w : World) (hn : inB n 1 1000000 = true) (hk : inB k 0 20 = false) :
    Calls Tryd.prog 26 #[.int .i64 kind, .int .i64 k, .int .i64 n] w fun e w' => e = .returned (.tuple #[.string ⟨#[]⟩, .bool false]) ∧ w = w' := by
  have HN := Lib.hid hn
  have HK := Lib.hid hk
  clear hn hk
  go_enter Tryd.func26, Tryd.ntmps26
  go_wp2_with fail
  refine (l00In_any _ _ _ _).mono ?_
  rw [HN.out]
  rintro e w' ⟨rfl, rfl⟩
  go_wp2_with fail
  refine (l00In_any _ _ _ _).mono ?_
  rw [HK.out]
  rintro e w' ⟨rfl, rfl⟩
  go_wp2
  go_ret2
  exact ⟨rfl, rfl⟩

set_option maxHeartbeats 400000 in
theorem l04Numbered_ok (kind k n : Int) (s : ByteArray) (t : Bool) (w : World) (hn : inB n 1 1000000 = true) (hk : inB k 0 20 = true)
    (h : ∀ w, Calls Tryd.prog 43 #[.int .i64 kind, .int .i64 k, .int .i64 n] w fun e w' => e = .returned (.tuple #[.string s, .bool t]) ∧ w = w') :
    Calls Tryd.prog 26 #[.int .i64 kind, .int .i64 k, .int .i64 n] w fun e w' => e = .returned (.tuple #[.string (if t then s else ⟨#[]⟩), .bool t]) ∧ w = w' := by
  have HN := Lib.hid hn
  have HK := Lib.hid hk
  have HH := Lib.hid h
  clear hn hk h
  cases t
  all_goals
    simp only [if_true, if_false, Bool.false_eq_true]
    go_enter Tryd.func26, Tryd.ntmps26
    go_wp2_with fail
    refine (l00In_any _ _ _ _).mono ?_
    rw [HN.out]
    rintro e w' ⟨rfl, rfl⟩
    go_wp2_with fail
    refine (l00In_any _ _ _ _).mono ?_
    rw [HK.out]
    rintro e w' ⟨rfl, rfl⟩
    go_wp2_with (go_at_call 43; refine (HH.out _).mono ?_; rintro e w' ⟨rfl, rfl⟩)
    go_ret2
    exact ⟨rfl, rfl⟩

end Go.Proofs.YtcgenmkgdhaejaaDoor
