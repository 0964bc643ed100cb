/- Numbers read back from their bits: the program's helpers. -/
import Derived.Test.YtcgenmkgdhaejaaDoorNobC
import Derived.Test.YtcgenmkgdhaejaaDoorRun
import Derived.IntWalk
namespace Go.Proofs.YtcgenmkgdhaejaaDoor
set_option linter.unusedSimpArgs false
set_option linter.unusedVariables false
open Go.RowKit
theorem trimL_len (c : UInt8) : ∀ l : List UInt8, l.length - (Lib.trimLeftB l c).length = lead c l ∧ (Lib.trimLeftB l c).length ≤ l.length
  | [] => ⟨rfl, Nat.le_refl _⟩
  | x :: r => by
    have ih := trimL_len c r
    by_cases h : x = c
    · have e : Lib.trimLeftB (x :: r) c = Lib.trimLeftB r c := by simp [Lib.trimLeftB, h]
      have e2 : lead c (x :: r) = lead c r + 1 := by show (if x = c then _ else _) = _; rw [if_pos h]
      rw [e, e2, List.length_cons]; omega
    · have e : Lib.trimLeftB (x :: r) c = x :: r := by simp [Lib.trimLeftB, h]
      have e2 : lead c (x :: r) = 0 := by show (if x = c then _ else _) = _; rw [if_neg h]
      rw [e, e2]; omega
theorem valA_snoc (c : UInt8) : ∀ (l : List UInt8) (a : Nat), valA a (l ++ [c]) = 2 * valA a l + bit c
  | [], _ => rfl
  | x :: r, a => valA_snoc c r _
theorem valA_lt (l : List UInt8) : valA 0 l < 2 ^ l.length := by
  have key : ∀ (l : List UInt8) (a : Nat), valA a l < (a + 1) * 2 ^ l.length := by
    intro l
    induction l with
    | nil => intro a; show a < (a + 1) * 1; omega
    | cons c r ih =>
      intro a
      show valA (2 * a + bit c) r < _
      have h1 := ih (2 * a + bit c)
      have h2 : bit c ≤ 1 := by unfold bit; split <;> omega
      have h3 : (2 * a + bit c + 1) * 2 ^ r.length ≤ (2 * (a + 1)) * 2 ^ r.length := Nat.mul_le_mul_right _ (by omega)
      have h4 : (a + 1) * 2 ^ (c :: r).length = (2 * (a + 1)) * 2 ^ r.length := by rw [List.length_cons, Nat.pow_succ, Nat.mul_comm (2 ^ r.length) 2, ← Nat.mul_assoc, Nat.mul_comm (a + 1) 2]
      omega
  have := key l 0
  omega
theorem numI_lt (l : List UInt8) : numI l < 1048576 := by
  unfold numI
  split
  · omega
  · have h1 := valA_lt l
    have h2 : 2 ^ l.length ≤ 2 ^ 20 := Nat.pow_le_pow_right (by omega) (by omega)
    omega

theorem headOf_any (l : List UInt8) (k : Nat) (w : World) (hk : k ≤ 1048576) (hl : l.length ≤ 1048576) :
    Calls Tryd.prog 47 #[.string ⟨l.toArray⟩, .int .i64 (k : Int)] w fun e w' => e = .returned (.string ⟨(l.take k).toArray⟩) ∧ w = w' := by
  obtain ⟨m, hm⟩ : ∃ m : Nat, m = min k l.length := ⟨_, rfl⟩
  have hmi : min (k : Int) (l.length : Int) = (m : Int) := by omega
  have hml : m ≤ l.length := by omega
  have hcut : ∀ W : World, (Instr.slice 9 (.string ⟨l.toArray⟩) none (some (.int .i64 (m : Int))) none).run Tryd.prog W = .ok (.string ⟨(l.take k).toArray⟩) W := by
    intro W
    rw [run_slice_string_h (h0 := by omega) (h2 := by show (m : Int) ≤ ((l.toArray.size : Nat) : Int); simp; omega)]
    · rw [ByteArray.extract_mk, show ((m : Int)).toNat = m by omega]
      rw [hm]
      simp [List.take_eq_take_min]
    · exact Tryd.underlying9
  generalize l.take k = z at *
  by_cases h : k ≤ l.length
  · have hmk : m = k := by omega
    clear hm
    subst hmk
    have k1 : (m : Int) ≤ (l.length : Int) := by omega
    go_enter Tryd.func47, Tryd.ntmps47
    go_wp2
    go_ret
    exact ⟨rfl, rfl⟩
  · have hmk : m = l.length := by omega
    clear hm hml
    subst hmk
    have k1 : ¬ (k : Int) ≤ (l.length : Int) := by omega
    go_enter Tryd.func47, Tryd.ntmps47
    go_wp2
    go_ret
    exact ⟨rfl, rfl⟩

set_option maxHeartbeats 1000000 in
theorem number_any (l : List UInt8) (w : World) (hl : l.length ≤ 1048576) (hb : ∀ c ∈ l, c = 48 ∨ c = 49) :
    Calls Tryd.prog 46 #[.string ⟨l.toArray⟩] w fun e w' => e = .returned (.int .i64 (numI l : Nat)) ∧ w = w' := by
  by_cases h : l.length ≤ 20
  · have HR : Hid (numI l = valA 0 l) := by show _ = _; exact numI_of h
    have k1 : ¬ (20 : Int) < (l.length : Int) := by omega
    have HB := Lib.hid hb
    have HS : Hid (∀ k, k < l.length → valA 0 (l.take (k + 1)) = 2 * valA 0 (l.take k) + bit (l[k]?.getD 0) ∧ valA 0 (l.take k) < 1048576) := by
      show ∀ k, _
      intro k hk
      have h1 := valA_lt (l.take k)
      have h2 : 2 ^ (l.take k).length ≤ 2 ^ 20 := Nat.pow_le_pow_right (by omega) (by rw [List.length_take]; omega)
      refine ⟨?_, by omega⟩
      rw [List.take_add_one, List.getElem?_eq_getElem hk, Option.toList_some, valA_snoc, Option.getD_some]
    clear hb
    go_enter Tryd.func46, Tryd.ntmps46
    go_wp2
    go_loop [3, 10] (fun v q => ∃ (k m : Nat), k ≤ l.length ∧ q = .int .i64 (k : Int) ∧ v = .int .i64 (m : Int) ∧ Hid (m = valA 0 (l.take k))) (fun _ q => l.length - (intOf q).toNat)
    case atStart => exact ⟨0, 0, Nat.zero_le _, rfl, rfl, Lib.hid rfl⟩
    case round =>
      obtain ⟨k, m, hk, rfl, rfl, hm⟩ := hrel
      by_cases hlt : k < l.length
      · obtain ⟨hs1, hs2⟩ := HS.out k hlt
        have hkb : k < (ByteArray.mk l.toArray).size := by show k < l.toArray.size; simpa using hlt
        obtain ⟨c, hc⟩ : ∃ c, (ByteArray.mk l.toArray)[k] = c := ⟨_, rfl⟩
        have hcl : l[k]? = some c := by rw [List.getElem?_eq_getElem hlt, ← hc]; rfl
        have hcb := HB.out c (List.mem_of_getElem? hcl)
        rw [hcl, Option.getD_some, ← hm.out] at hs1
        rw [← hm.out] at hs2
        have HS1 := Lib.hid hs1
        clear hs1 hcl
        rcases hcb with rfl | rfl
        · have HS2 : Hid (2 * m + 0 = valA 0 (l.take (k + 1))) := by show _ = _; rw [HS1.out]; rfl
          clear HS1
          go_wp2
          go_round
          case rel => exact ⟨k + 1, 2 * m + 0, by omega, by go_num, by go_num, HS2⟩
          case measure => simp [intOf]; omega
        · have HS2 : Hid (2 * m + 1 = valA 0 (l.take (k + 1))) := by show _ = _; rw [HS1.out]; rfl
          clear HS1
          go_wp2
          go_round
          case rel => exact ⟨k + 1, 2 * m + 1, by omega, by go_num, by go_num, HS2⟩
          case measure => simp [intOf]; omega
      · obtain rfl : k = l.length := by omega
        have h2 := hm.out
        rw [List.take_length, ← HR.out] at h2
        go_wp2
        go_ret
        exact ⟨ret_int rfl, rfl⟩
  · have HR : Hid (numI l = 0) := by show _ = _; unfold numI; rw [if_pos (by omega)]
    have k1 : (20 : Int) < (l.length : Int) := by omega
    clear hb
    go_enter Tryd.func46, Tryd.ntmps46
    go_wp2
    go_ret
    exact ⟨ret_int (by rw [HR.out]; rfl), rfl⟩

end Go.Proofs.YtcgenmkgdhaejaaDoor
