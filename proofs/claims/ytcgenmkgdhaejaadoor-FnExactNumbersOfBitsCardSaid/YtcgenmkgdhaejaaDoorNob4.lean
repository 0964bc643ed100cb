/- Numbers read back from their bits: the reference's helpers. -/
import Derived.Test.YtcgenmkgdhaejaaDoorNobC
import Derived.IntWalk
namespace Go.Proofs.YtcgenmkgdhaejaaDoor
set_option linter.unusedSimpArgs false
set_option linter.unusedVariables false
open Go.RowKit

theorem l00Min_any (a b : Nat) (w : World) : Calls Tryd.prog 41 #[.int .i64 (a : Int), .int .i64 (b : Int)] w fun e w' => e = .returned (.int .i64 ((min a b : Nat) : Int)) ∧ w = w' := by
  by_cases h : a < b
  · have k1 : (a : Int) < (b : Int) := by omega
    have HR : Hid (min a b = a) := by show _ = _; omega
    go_enter Tryd.func41, Tryd.ntmps41
    go_wp2
    go_ret
    exact ⟨ret_int (by rw [HR.out]), rfl⟩
  · have k1 : ¬ (a : Int) < (b : Int) := by omega
    have HR : Hid (min a b = b) := by show _ = _; omega
    go_enter Tryd.func41, Tryd.ntmps41
    go_wp2
    go_ret
    exact ⟨ret_int (by rw [HR.out]), rfl⟩

theorem untl48_drop {l : List UInt8} {p : Nat} {c : UInt8} (h : l[p]? = some c) : untl 48 (l.drop p) = if c = 48 then 0 else untl 48 (l.drop (p + 1)) + 1 := by
  obtain ⟨hp, hc⟩ := List.getElem?_eq_some_iff.1 h
  rw [List.drop_eq_getElem_cons hp, hc]; rfl
set_option maxHeartbeats 1000000 in
theorem l04Until48_any (l : List UInt8) (p : Nat) (w : World) (hl : l.length ≤ 1048576) (hp : p ≤ l.length) :
    Calls Tryd.prog 40 #[.string ⟨l.toArray⟩, .int .i64 (p : Int), .int .u8 48] w fun e w' => e = .returned (.int .i64 (untl 48 (l.drop p) : Nat)) ∧ w = w' := by
  obtain ⟨res, hres⟩ : ∃ res, res = untl 48 (l.drop p) := ⟨_, rfl⟩
  rw [← hres]
  have H0 := Lib.hid hres
  clear hres
  go_enter Tryd.func40, Tryd.ntmps40
  go_wp2
  go_loop [7] (fun q => ∃ j : Nat, p + j ≤ l.length ∧ q = .int .i64 (j : Int) ∧ Hid (res = j + untl 48 (l.drop (p + j)))) (fun q => l.length - (intOf q).toNat)
  case atStart => exact ⟨0, by omega, rfl, by show _ = _; rw [H0.out, Nat.zero_add]; rfl⟩
  case round =>
    obtain ⟨j, hj, rfl, hr⟩ := hrel
    have e0 : (p : Int) + (j : Int) = ((p + j : Nat) : Int) := by omega
    have e1 : IntKind.i64.wrap ((p + j : Nat) : Int) = ((p + j : Nat) : Int) := IntWalk.i64_in _ (by omega)
    obtain ⟨i, hi⟩ : ∃ i, i = p + j := ⟨_, rfl⟩
    rw [← hi] at e0 e1 hj hr
    have HI := Lib.hid hi
    by_cases hlt : i < l.length
    · have hpj : j < l.length := by omega
      have hkb : i < (ByteArray.mk l.toArray).size := by show i < l.toArray.size; simpa using hlt
      obtain ⟨c, hc⟩ : ∃ c, (ByteArray.mk l.toArray)[i] = c := ⟨_, rfl⟩
      have hcl : l[i]? = some c := by rw [List.getElem?_eq_getElem hlt, ← hc]; rfl
      have HD := Lib.hid (untl48_drop hcl)
      have k1 : (i : Int) < (l.length : Int) := by omega
      clear hcl hi
      by_cases h48 : c = 48
      · subst h48
        have HR : Hid (res = j) := by show _ = _; rw [hr.out, HD.out, if_pos rfl]; omega
        clear hr HD
        go_wp2
        go_ret
        exact ⟨ret_int (by rw [HR.out]), rfl⟩
      · have HR : Hid (res = (j + 1) + untl 48 (l.drop (i + 1))) := by show _ = _; rw [hr.out, HD.out, if_neg h48]; omega
        have e2 : ¬ (c.toNat : Int) = 48 := fun h => h48 (UInt8.toNat_inj.1 (by show c.toNat = 48; omega))
        have e3 : ¬ c.toNat = 48 := by omega
        clear hr HD h48
        go_wp2
        go_round
        case rel => exact ⟨j + 1, by have := HI.out; omega, by go_num, by have := HI.out; rw [show p + (j + 1) = i + 1 by omega]; exact HR⟩
        case measure => simp [intOf]; omega
    · have hil : i = l.length := by omega
      have HR : Hid (res = j) := by show _ = _; rw [hr.out, hil, List.drop_length]; rfl
      have k1 : ¬ (i : Int) < (l.length : Int) := by omega
      clear hr hi hil
      go_wp2
      go_ret
      exact ⟨ret_int (by rw [HR.out]), rfl⟩

theorem untl49_drop {l : List UInt8} {p : Nat} {c : UInt8} (h : l[p]? = some c) : untl 49 (l.drop p) = if c = 49 then 0 else untl 49 (l.drop (p + 1)) + 1 := by
  obtain ⟨hp, hc⟩ := List.getElem?_eq_some_iff.1 h
  rw [List.drop_eq_getElem_cons hp, hc]; rfl
set_option maxHeartbeats 1000000 in
theorem l04Until49_any (l : List UInt8) (p : Nat) (w : World) (hl : l.length ≤ 1048576) (hp : p ≤ l.length) :
    Calls Tryd.prog 40 #[.string ⟨l.toArray⟩, .int .i64 (p : Int), .int .u8 49] w fun e w' => e = .returned (.int .i64 (untl 49 (l.drop p) : Nat)) ∧ w = w' := by
  obtain ⟨res, hres⟩ : ∃ res, res = untl 49 (l.drop p) := ⟨_, rfl⟩
  rw [← hres]
  have H0 := Lib.hid hres
  clear hres
  go_enter Tryd.func40, Tryd.ntmps40
  go_wp2
  go_loop [7] (fun q => ∃ j : Nat, p + j ≤ l.length ∧ q = .int .i64 (j : Int) ∧ Hid (res = j + untl 49 (l.drop (p + j)))) (fun q => l.length - (intOf q).toNat)
  case atStart => exact ⟨0, by omega, rfl, by show _ = _; rw [H0.out, Nat.zero_add]; rfl⟩
  case round =>
    obtain ⟨j, hj, rfl, hr⟩ := hrel
    have e0 : (p : Int) + (j : Int) = ((p + j : Nat) : Int) := by omega
    have e1 : IntKind.i64.wrap ((p + j : Nat) : Int) = ((p + j : Nat) : Int) := IntWalk.i64_in _ (by omega)
    obtain ⟨i, hi⟩ : ∃ i, i = p + j := ⟨_, rfl⟩
    rw [← hi] at e0 e1 hj hr
    have HI := Lib.hid hi
    by_cases hlt : i < l.length
    · have hpj : j < l.length := by omega
      have hkb : i < (ByteArray.mk l.toArray).size := by show i < l.toArray.size; simpa using hlt
      obtain ⟨c, hc⟩ : ∃ c, (ByteArray.mk l.toArray)[i] = c := ⟨_, rfl⟩
      have hcl : l[i]? = some c := by rw [List.getElem?_eq_getElem hlt, ← hc]; rfl
      have HD := Lib.hid (untl49_drop hcl)
      have k1 : (i : Int) < (l.length : Int) := by omega
      clear hcl hi
      by_cases h48 : c = 49
      · subst h48
        have HR : Hid (res = j) := by show _ = _; rw [hr.out, HD.out, if_pos rfl]; omega
        clear hr HD
        go_wp2
        go_ret
        exact ⟨ret_int (by rw [HR.out]), rfl⟩
      · have HR : Hid (res = (j + 1) + untl 49 (l.drop (i + 1))) := by show _ = _; rw [hr.out, HD.out, if_neg h48]; omega
        have e2 : ¬ (c.toNat : Int) = 49 := fun h => h48 (UInt8.toNat_inj.1 (by show c.toNat = 49; omega))
        have e3 : ¬ c.toNat = 49 := by omega
        clear hr HD h48
        go_wp2
        go_round
        case rel => exact ⟨j + 1, by have := HI.out; omega, by go_num, by have := HI.out; rw [show p + (j + 1) = i + 1 by omega]; exact HR⟩
        case measure => simp [intOf]; omega
    · have hil : i = l.length := by omega
      have HR : Hid (res = j) := by show _ = _; rw [hr.out, hil, List.drop_length]; rfl
      have k1 : ¬ (i : Int) < (l.length : Int) := by omega
      clear hr hi hil
      go_wp2
      go_ret
      exact ⟨ret_int (by rw [HR.out]), rfl⟩

theorem vpA_drop {l : List UInt8} {p a d : Nat} {c : UInt8} (h : l[p]? = some c) : vpA a (l.drop p) (d + 1) = vpA (2 * a + bit c) (l.drop (p + 1)) d := by
  obtain ⟨hp, hc⟩ := List.getElem?_eq_some_iff.1 h
  rw [List.drop_eq_getElem_cons hp, hc]; rfl
theorem vpA_past {l : List UInt8} {p a d : Nat} (h : l.length ≤ p) : vpA a (l.drop p) (d + 1) = vpA (2 * a) (l.drop (p + 1)) d := by
  rw [List.drop_of_length_le h, List.drop_of_length_le (by omega)]; rfl
theorem vpA_zero (a : Nat) (l : List UInt8) : vpA a l 0 = a := by cases l <;> rfl
set_option maxHeartbeats 1000000 in
theorem l04Value_any (l : List UInt8) (p d : Nat) (w : World) (hl : l.length ≤ 1048576) (hp : p ≤ 1048576) (hd : d ≤ 30) :
    Calls Tryd.prog 42 #[.string ⟨l.toArray⟩, .int .i64 (p : Int), .int .i64 (d : Int)] w fun e w' => e = .returned (.int .i64 (vpA 0 (l.drop p) d : Nat)) ∧ w = w' := by
  obtain ⟨res, hres⟩ : ∃ res, res = vpA 0 (l.drop p) d := ⟨_, rfl⟩
  rw [← hres]
  have H0 := Lib.hid hres
  clear hres
  go_enter Tryd.func42, Tryd.ntmps42
  go_wp2
  go_loop [7, 8] (fun v q => ∃ j m d' : Nat, j + d' = d ∧ q = .int .i64 ((p + j : Nat) : Int) ∧ v = .int .i64 (m : Int) ∧ m < 2 ^ j ∧ Hid (res = vpA m (l.drop (p + j)) d')) (fun _ q => p + d - (intOf q).toNat)
  case atStart => exact ⟨0, 0, d, by omega, rfl, rfl, by decide, by show _ = _; rw [H0.out]; rfl⟩
  case round =>
    obtain ⟨j, m, d', hj, rfl, rfl, hm, hr⟩ := hrel
    have hm2 : 2 ^ j ≤ 2 ^ 30 := Nat.pow_le_pow_right (by omega) (by omega)
    have hm3 : m < 1073741824 := by omega
    have hm4 : 2 ^ (j + 1) = 2 * 2 ^ j := by rw [Nat.pow_succ]; omega
    have HM : Hid (2 * m + 1 < 2 ^ (j + 1)) := by show _ < _; omega
    clear hm hm2 hm4
    obtain ⟨i, hi⟩ : ∃ i, i = p + j := ⟨_, rfl⟩
    rw [← hi] at hr ⊢
    have HI := Lib.hid hi
    have e0 : (p : Int) + (d : Int) = ((p + d : Nat) : Int) := by omega
    cases d' with
    | zero =>
      have hr2 := hr.out
      rw [vpA_zero] at hr2
      have HR := Lib.hid hr2
      have k1 : ¬ (i : Int) < (p : Int) + (d : Int) := by omega
      clear hr hr2 hi e0
      go_wp2
      go_ret
      exact ⟨ret_int (by rw [HR.out]), rfl⟩
    | succ d' =>
      have k1 : (i : Int) < (p : Int) + (d : Int) := by omega
      have hi2 : i ≤ 2097152 := by omega
      by_cases hlt : i < l.length
      · have hkb : i < (ByteArray.mk l.toArray).size := by show i < l.toArray.size; simpa using hlt
        obtain ⟨c, hc⟩ : ∃ c, (ByteArray.mk l.toArray)[i] = c := ⟨_, rfl⟩
        have hcl : l[i]? = some c := by rw [List.getElem?_eq_getElem hlt, ← hc]; rfl
        have HD := Lib.hid (hr.out.trans (vpA_drop hcl))
        have k2 : (i : Int) < (l.length : Int) := by omega
        clear hcl hi hr e0
        by_cases h49 : c = 49
        · subst h49
          have HR : Hid (res = vpA (2 * m + 1) (l.drop (i + 1)) d') := HD.out
          clear HD
          go_wp2
          go_round
          case rel => exact ⟨j + 1, 2 * m + 1, d', by omega, by have := HI.out; rw [show p + (j + 1) = i + 1 by omega]; go_num, by go_num, HM.out, by have := HI.out; rw [show p + (j + 1) = i + 1 by omega]; exact HR⟩
          case measure => simp [intOf]; omega
        · have HR : Hid (res = vpA (2 * m + 0) (l.drop (i + 1)) d') := by
            have h := HD.out
            rw [show bit c = 0 by unfold bit; rw [if_neg h49]] at h
            exact h
          have e2 : ¬ (c.toNat : Int) = 49 := fun h => h49 (UInt8.toNat_inj.1 (by show c.toNat = 49; omega))
          have e3 : ¬ c.toNat = 49 := by omega
          clear HD h49
          go_wp2
          go_round
          case rel => exact ⟨j + 1, 2 * m + 0, d', by omega, by have := HI.out; rw [show p + (j + 1) = i + 1 by omega]; go_num, by go_num, by have := HM.out; omega, by have := HI.out; rw [show p + (j + 1) = i + 1 by omega]; exact HR⟩
          case measure => simp [intOf]; omega
      · have HR : Hid (res = vpA (2 * m + 0) (l.drop (i + 1)) d') := hr.out.trans (vpA_past (by omega))
        have k2 : ¬ (i : Int) < (l.length : Int) := by omega
        clear hi hr e0
        go_wp2
        go_round
        case rel => exact ⟨j + 1, 2 * m + 0, d', by omega, by have := HI.out; rw [show p + (j + 1) = i + 1 by omega]; go_num, by go_num, by have := HM.out; omega, by have := HI.out; rw [show p + (j + 1) = i + 1 by omega]; exact HR⟩
        case measure => simp [intOf]; omega

end Go.Proofs.YtcgenmkgdhaejaaDoor
