/- Texts of bits: isBits. -/
import Derived.Test.YtcgenmkgdhaejaaDoorTrm
import Derived.WalkSmall
import Derived.Test.YtcgenmkgdhaejaaDoorBase
namespace Go.Proofs.YtcgenmkgdhaejaaDoor
set_option linter.unusedSimpArgs false
set_option linter.unusedVariables false
open Go.RowKit

def bitsOk (l : List UInt8) : Bool := decide (l.length ≤ 512) && l.all isBit

set_option maxHeartbeats 400000 in
theorem isBits_any (l : List UInt8) (w : World) (hl : l.length ≤ 1048576) :
    Calls Tryd.prog 29 #[.string ⟨l.toArray⟩] w fun e w' => e = .returned (.bool (bitsOk l)) ∧ Below w.heap.size w w' := by
  have HV : Hid (bitsOk l = (decide (l.length ≤ 512) && (Lib.trimS l [48, 49]).isEmpty)) := by
    show _ = _
    unfold bitsOk
    congr 1
    rw [Bool.eq_iff_iff, List.isEmpty_iff, trim01_nil]
  have HT := Lib.hid (fun w => trim01 l w hl)
  generalize Lib.trimS l [48, 49] = z at *
  by_cases h5 : l.length ≤ 512
  · have h6 : (l.length : Int) ≤ 512 := by omega
    go_enter Tryd.func29, Tryd.ntmps29
    go_wp2_with (go_at_call 44; refine (HT.out _).mono ?_; rintro e w1 ⟨rfl, hb⟩)
    go_ret
    exact ⟨by rw [HV.out]; simp [h5], hb⟩
  · have h6 : ¬ (l.length : Int) ≤ 512 := by omega
    go_enter Tryd.func29, Tryd.ntmps29
    go_wp2
    go_ret
    exact ⟨by rw [HV.out]; simp [h5], Below.refl _ _⟩

theorem isBit_iff (c : UInt8) : isBit c = true ↔ (c = 48 ∨ c = 49) := by
  unfold isBit; simp

set_option maxHeartbeats 400000 in
theorem l04Text_any (l : List UInt8) (w : World) (hl : l.length ≤ 1048576) :
    Calls Tryd.prog 24 #[.string ⟨l.toArray⟩] w fun e w' => e = .returned (.bool (bitsOk l)) ∧ w = w' := by
  by_cases h5 : l.length ≤ 512
  · have h6 : (l.length : Int) ≤ 512 := by omega
    go_enter Tryd.func24, Tryd.ntmps24
    go_wp2
    go_loop [3] (fun i => ∃ k : Nat, k ≤ l.length ∧ i = .int .i64 k ∧ (l.take k).all isBit = true) (fun i => l.length - (intOf i).toNat)
    case atStart => exact ⟨0, Nat.zero_le _, rfl, rfl⟩
    case round =>
      obtain ⟨k, hk, rfl, hall⟩ := hrel
      have HA := Lib.hid hall
      clear hall
      by_cases hlt : k < l.length
      · have hkb : k < (ByteArray.mk l.toArray).size := by show k < l.toArray.size; simpa using hlt
        obtain ⟨c, hc⟩ : ∃ c, (ByteArray.mk l.toArray)[k] = c := ⟨_, rfl⟩
        have hcl : l[k]? = some c := by rw [List.getElem?_eq_getElem hlt, ← hc]; rfl
        have HA2 : Hid ((l.take (k + 1)).all isBit = isBit c) := by
          show _ = _
          rw [List.take_add_one, hcl, List.all_append, HA.out]; simp
        have HBAD : Hid (isBit c = false → bitsOk l = false) := by
          intro h
          unfold bitsOk
          have : l.all isBit = false := by
            rw [List.all_eq_false]
            exact ⟨c, List.mem_of_getElem? hcl, by simp [h]⟩
          simp [this]
        clear hcl
        by_cases h48 : c = 48
        · subst h48
          go_wp2
          go_round
          case rel => exact ⟨k + 1, by omega, by go_num, by rw [HA2.out]; rfl⟩
          case measure => simp [intOf]; omega
        · by_cases h49 : c = 49
          · subst h49
            go_wp2
            go_round
            case rel => exact ⟨k + 1, by omega, by go_num, by rw [HA2.out]; rfl⟩
            case measure => simp [intOf]; omega
          · have HB := Lib.hid (HBAD.out (by simp [isBit, h48, h49]))
            have e1 : ¬ (c.toNat : Int) = 48 := fun h => h48 (UInt8.toNat_inj.1 (by show c.toNat = 48; omega))
            have e2 : ¬ (c.toNat : Int) = 49 := fun h => h49 (UInt8.toNat_inj.1 (by show c.toNat = 49; omega))
            have e3 : ¬ c.toNat = 48 := by omega
            have e4 : ¬ c.toNat = 49 := by omega
            have e5 : ((c.toNat : Int) != 48) = true := by simpa using e1
            have e6 : ((c.toNat : Int) != 49) = true := by simpa using e2
            go_wp2
            go_ret
            exact ⟨ret_bool HB.out.symm, rfl⟩
      · obtain rfl : k = l.length := by omega
        have HB : Hid (bitsOk l = true) := by
          show _ = _
          have := HA.out
          rw [List.take_length] at this
          simp [bitsOk, h5, this]
        go_wp2
        go_ret
        exact ⟨by rw [HB.out]; simp [h5], rfl⟩
  · have h6 : ¬ (l.length : Int) ≤ 512 := by omega
    rw [show bitsOk l = false by simp [bitsOk, h5]]
    go_enter Tryd.func24, Tryd.ntmps24
    go_wp2
    go_loop [3] (fun i => i = .int .i64 0) (fun _ => 0)
    case atStart => rfl
    case round =>
      subst hrel
      go_wp2
      go_ret
      exact ⟨ret_bool (by simp; omega), rfl⟩

end Go.Proofs.YtcgenmkgdhaejaaDoor
