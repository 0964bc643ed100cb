/- Numbers as texts of bits: Rice. -/
import Derived.Test.YtjobgobeiiakgaaDoorMGam
namespace Go.Proofs.YtjobgobeiiakgaaDoor
set_option linter.unusedSimpArgs false
set_option linter.unusedVariables false
open Go.RowKit

set_option maxHeartbeats 400000 in
theorem asBits_any (l : List UInt8) (w : World) (h : l.length ≤ 1048576) :
    Calls Tryd.prog 36 #[.string ⟨l.toArray⟩] w fun e w' => e = .returned (.tuple #[.string (if l.length ≤ 512 then ⟨l.toArray⟩ else ⟨#[]⟩), .bool (decide (l.length ≤ 512))]) ∧ w = w' := by
  by_cases h5 : l.length ≤ 512
  · rw [if_pos h5, show decide (l.length ≤ 512) = true from decide_eq_true h5]
    have h6 : ¬ (512 : Int) < (l.length : Int) := by omega
    go_enter Tryd.func36, Tryd.ntmps36
    go_wp2
    go_ret2
    exact ⟨rfl, rfl⟩
  · rw [if_neg h5, show decide (l.length ≤ 512) = false from decide_eq_false h5]
    have h6 : (512 : Int) < (l.length : Int) := by omega
    go_enter Tryd.func36, Tryd.ntmps36
    go_wp2
    go_ret2
    exact ⟨rfl, rfl⟩

theorem and_pow_u64 (x q : Nat) (hx : x < 18446744073709551616) (hq : q ≤ 63) : bits .and .u64 (x : Int) (2 ^ q - 1) = ((x % 2 ^ q : Nat) : Int) := by
  have h1 : 1 ≤ 2 ^ q := Nat.one_le_two_pow
  have h63 : 2 ^ q ≤ 2 ^ 63 := Nat.pow_le_pow_right (by omega) hq
  rw [show (2 : Nat) ^ 63 = 9223372036854775808 from rfl] at h63
  have e : (2 : Int) ^ q - 1 = ((2 ^ q - 1 : Nat) : Int) := by
    rw [show (2 : Int) ^ q = ((2 ^ q : Nat) : Int) by simp]; omega
  have hm : x % 2 ^ q ≤ x := Nat.mod_le ..
  have key : (BitVec.ofInt 64 (x : Int) &&& BitVec.ofInt 64 ((2 ^ q - 1 : Nat) : Int)).toNat = x % 2 ^ q := by
    rw [BitVec.toNat_and, BitVec.ofInt_natCast, BitVec.ofInt_natCast, BitVec.toNat_ofNat, BitVec.toNat_ofNat, Nat.mod_eq_of_lt (by omega), Nat.mod_eq_of_lt (by omega), Nat.and_two_pow_sub_one_eq_mod]
  rw [e]
  show IntKind.u64.wrap ((BitVec.ofInt 64 (x : Int) &&& BitVec.ofInt 64 ((2 ^ q - 1 : Nat) : Int)).toNat : Nat) = _
  rw [key, IntKind.wrap_u64]
  omega

theorem ret_tup2 {a b : ByteArray} {s t : Bool} (h : a = b) (ht : s = t) : Ending.returned (.tuple #[.string a, .bool s]) = .returned (.tuple #[.string b, .bool t]) := by rw [h, ht]

def riceT (x k : Nat) : List UInt8 := unaryT (x / 2 ^ k + 1) ++ digs x k
def riceO (x k : Nat) : ByteArray × Bool := if x / 2 ^ k < 512 then (if (riceT x k).length ≤ 512 then ⟨(riceT x k).toArray⟩ else ⟨#[]⟩, decide ((riceT x k).length ≤ 512)) else (⟨#[]⟩, false)
def out_RiceOf (n k : Int) : ByteArray × Bool := if inB n 1 1000000 && inB k 0 20 then riceO (n.toNat - 1) k.toNat else (⟨#[]⟩, false)

set_option maxRecDepth 100000 in
set_option maxHeartbeats 400000 in
theorem impl_RiceOf (w : World) (n : Int) (_ : I64 n) (k : Int) (_ : I64 k) :
    Calls Tryd.prog 15 #[.int .i64 n, .int .i64 k] w fun e w' => e = .returned (.tuple #[.string (out_RiceOf n k).1, .bool (out_RiceOf n k).2]) ∧ Below w.heap.size w w' := by
  generalize ht : inB n 1 1000000 = t
  have HT := Lib.hid ht
  cases t
  · rw [show out_RiceOf n k = (⟨#[]⟩, false) by simp [out_RiceOf, ht]]
    clear ht
    go_enter Tryd.func15, Tryd.ntmps15
    go_wp2_with (go_at_call 32; refine (isCounted_any _ _).mono ?_; rw [HT.out]; rintro e w' ⟨rfl, rfl⟩)
    go_ret2
    exact ⟨rfl, Below.refl _ _⟩
  generalize htk : inB k 0 20 = tk
  have HTK := Lib.hid htk
  cases tk
  · rw [show out_RiceOf n k = (⟨#[]⟩, false) by simp [out_RiceOf, htk]]
    clear ht htk
    go_enter Tryd.func15, Tryd.ntmps15
    go_wp2_with (first | (go_at_call 32; refine (isCounted_any _ _).mono ?_; rw [HT.out]; rintro e w' ⟨rfl, rfl⟩) | (go_at_call 30; refine (within_any _ _ _ _).mono ?_; rw [HTK.out]; rintro e w' ⟨rfl, rfl⟩))
    go_ret2
    exact ⟨rfl, Below.refl _ _⟩
  obtain ⟨h1, h2⟩ := inB_true ht
  obtain ⟨g1, g2⟩ := inB_true htk
  obtain ⟨x, rfl⟩ : ∃ x : Nat, n = (x : Int) + 1 := ⟨(n - 1).toNat, by omega⟩
  obtain ⟨q, rfl⟩ : ∃ q : Nat, k = (q : Int) := ⟨k.toNat, by omega⟩
  rw [show out_RiceOf ((x : Int) + 1) q = riceO x q by
    rw [out_RiceOf, ht, htk]; simp only [Bool.and_self, if_true]; congr 1]
  clear ht htk
  have hdiv : x / 2 ^ q ≤ x := Nat.div_le_self ..
  have HO : Hid (riceO x q = if x / 2 ^ q < 512 then (if (riceT x q).length ≤ 512 then ⟨(riceT x q).toArray⟩ else ⟨#[]⟩, decide ((riceT x q).length ≤ 512)) else (⟨#[]⟩, false)) := rfl
  have HR : Hid (riceT x q = unaryT (x / 2 ^ q + 1) ++ digs x q) := rfl
  generalize hd : x / 2 ^ q = d at *
  have hd' : (x : Int) / 2 ^ q = (d : Int) := by rw [← hd]; simp
  have hp1 : (1 : Int) ≤ 2 ^ q := by
    have := Nat.one_le_two_pow (n := q); exact_mod_cast this
  have hp2 : (2 : Int) ^ q ≤ 1048576 := by
    have := Nat.pow_le_pow_right (n := 2) (by omega) (show q ≤ 20 by omega)
    rw [show (2 : Nat) ^ 20 = 1048576 from rfl] at this
    rw [show (2 : Int) ^ q = ((2 ^ q : Nat) : Int) by simp]; omega
  have hand := and_pow_u64 x q (by omega) (by omega)
  clear hd
  by_cases hs : d < 512
  · have HU : Hid (out_UnaryOf ((d : Int) + 1) = (⟨(unaryT (d + 1)).toArray⟩, true)) := by
      show _ = _
      rw [out_UnaryOf, if_pos (by unfold inB; exact decide_eq_true ⟨by omega, by omega⟩), show ((d : Int) + 1).toNat = d + 1 by omega]
    rw [if_pos hs] at HO
    have hL := digs_length x q
    have hLu : (unaryT (d + 1)).length ≤ 512 := by simp [unaryT]; omega
    have HB := Lib.hid (fun w => binary_any (x % 2 ^ q) q w (by have := Nat.mod_le x (2 ^ q); omega) (by omega))
    rw [digs_mod] at HB
    generalize digs x q = l at *
    generalize unaryT (d + 1) = u at *
    generalize riceT x q = r at *
    generalize riceO x q = o at *
    go_enter Tryd.func15, Tryd.ntmps15
    go_wp2_with (first | (go_at_call 32; refine (isCounted_any _ _).mono ?_; rw [HT.out]; rintro e w' ⟨rfl, rfl⟩) | (go_at_call 30; refine (within_any _ _ _ _).mono ?_; rw [HTK.out]; rintro e w' ⟨rfl, rfl⟩))
    refine (impl_UnaryOf _ _ (by constructor <;> omega)).mono ?_
    rw [HU.out]
    dsimp only
    rintro e w1 ⟨rfl, hb1⟩
    have hll : l.length ≤ 32 := by omega
    have hru : r.length = u.length + l.length := by rw [HR.out]; simp
    have hcat : ∀ W, (Op.stringOp .add ⟨u.toArray⟩ ⟨l.toArray⟩).run Tryd.prog W = .ok (.string ⟨r.toArray⟩) W := fun W => by rw [HR.out]; exact run_string_add_lists W u l (by omega) (by omega)
    have HAB : Hid (∀ w, Calls Tryd.prog 36 #[.string ⟨r.toArray⟩] w fun e w' => e = .returned (.tuple #[.string o.1, .bool o.2]) ∧ w = w') := by
      show ∀ w, _
      rw [HO.out]
      exact fun w => asBits_any r w (by omega)
    go_wp2_with (first | (go_at_call 37; refine (HB.out _).mono ?_; rintro e w2 ⟨rfl, hb2⟩) | (go_at_call 36; refine (HAB.out _).mono ?_; rintro e w' ⟨rfl, rfl⟩))
    go_ret2
    exact ⟨rfl, hb1.trans (hb2.mono hb1.size)⟩
  · have HU : Hid (out_UnaryOf ((d : Int) + 1) = (⟨#[]⟩, false)) := by
      show _ = _
      rw [out_UnaryOf, if_neg (by unfold inB; simp; omega)]
    rw [if_neg hs] at HO
    go_enter Tryd.func15, Tryd.ntmps15
    go_wp2_with (first | (go_at_call 32; refine (isCounted_any _ _).mono ?_; rw [HT.out]; rintro e w' ⟨rfl, rfl⟩) | (go_at_call 30; refine (within_any _ _ _ _).mono ?_; rw [HTK.out]; rintro e w' ⟨rfl, rfl⟩))
    refine (impl_UnaryOf _ _ (by constructor <;> omega)).mono ?_
    rw [HU.out]
    dsimp only
    rintro e w1 ⟨rfl, hb1⟩
    go_wp2
    go_ret2
    exact ⟨by rw [HO.out]; rfl, hb1⟩

end Go.Proofs.YtjobgobeiiakgaaDoor
