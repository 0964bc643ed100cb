/- The library's stable sort: two parts side by side exchanged. -/
import Derived.Test.YtjobgobeiiakgaaSwr
namespace Go.Proofs.Ytjobgobeiiakgaa
set_option linter.unusedSimpArgs false
set_option linter.unusedVariables false
open Go.RowKit

set_option maxHeartbeats 2000000 in
theorem rotI_any (ad : Option Addr) (c B n a m b : Nat) (l G : List Nat) (w : World) (cmp : Value) (hl : l.length = n) (ham : a < m) (hmb : m < b) (hb : b ≤ n) (hR : Rot l m (m - a) (b - m) G) (hn : n ≤ 4096) (hown : w.ownsRow B 2 1 (.slice ad n c) n (nats l)) :
    Calls Try.prog 118 #[.slice ad n c, .int .i64 (a : Int), .int .i64 (m : Int), .int .i64 (b : Int), cmp] w fun e w' => e = .returned (.tuple #[]) ∧ w'.ownsRow B 2 1 (.slice ad n c) n (nats G) ∧ w.grownBy w' (Value.slice ad n c).ownBlock := by
  obtain ⟨g, rfl, hBg, hgl⟩ := own_some hown (by omega)
  have HR := Lib.hid hR
  have HL := Lib.hid hl
  obtain ⟨i0, hi0⟩ : ∃ i0, i0 = m - a := ⟨_, rfl⟩
  obtain ⟨j0, hj0⟩ : ∃ j0, j0 = b - m := ⟨_, rfl⟩
  rw [← hi0, ← hj0] at HR
  have e1 : IntKind.i64.wrap ((m : Int) - (a : Int)) = (i0 : Int) := by rw [hi0, Int.ofNat_sub (by omega)]; exact IntWalk.i64_in _ (by omega)
  have e2 : IntKind.i64.wrap ((b : Int) - (m : Int)) = (j0 : Int) := by rw [hj0, Int.ofNat_sub (by omega)]; exact IntWalk.i64_in _ (by omega)
  have hi1 : 1 ≤ i0 := by omega
  have hj1 : 1 ≤ j0 := by omega
  have hi2 : i0 ≤ m := by omega
  have hj2 : m + j0 ≤ n := by omega
  clear hR hl hi0 hj0
  go_enter Try.func118, Try.ntmps118
  go_wp2
  go_loopw [10, 11] (fun q r wr => ∃ (i j : Nat) (L : List Nat), q = .int .i64 (i : Int) ∧ r = .int .i64 (j : Int) ∧ 1 ≤ i ∧ 1 ≤ j ∧ i ≤ m ∧ m + j ≤ n ∧ L.length = n ∧ Rot L m i j G ∧ wr.ownsRow B 2 1 (.slice (some ⟨g, 0, none⟩) n c) n (nats L) ∧ w.grownBy wr (some g)) (fun q r _ => (intOf q).toNat + (intOf r).toNat)
  case atStart => exact ⟨i0, j0, l, rfl, rfl, hi1, hj1, hi2, hj2, HL.out, HR.out, hown, World.grownBy.refl _ _⟩
  case round =>
    clear hown hi1 hj1 hi2 hj2 HL HR e1 e2
    obtain ⟨i, j, L, rfl, rfl, hi1, hj1, hi2, hj2, hln, hR, hown, hg⟩ := hrel
    have e1 : IntKind.i64.wrap ((m : Int) - (i : Int)) = ((m - i : Nat) : Int) := by rw [Int.ofNat_sub (by omega)]; exact IntWalk.i64_in _ (by omega)
    rcases Nat.lt_trichotomy i j with hij | hij | hij
    · have e2 : IntKind.i64.wrap ((m : Int) + (j : Int)) = ((m + j : Nat) : Int) := by rw [Int.natCast_add]; exact IntWalk.i64_in _ (by omega)
      have e3 : IntKind.i64.wrap (((m + j : Nat) : Int) - (i : Int)) = ((m + j - i : Nat) : Int) := by rw [Int.ofNat_sub (by omega)]; exact IntWalk.i64_in _ (by omega)
      have e4 : IntKind.i64.wrap ((j : Int) - (i : Int)) = ((j - i : Nat) : Int) := by rw [Int.ofNat_sub (by omega)]; exact IntWalk.i64_in _ (by omega)
      have HC := Lib.hid (swrI_any (some ⟨g, 0, none⟩) c B n (m - i) (m + j - i) i L wr cmp hln (by omega) (by omega) (by omega) (by omega) hn hown)
      have HR := Lib.hid (hR.small hij)
      have HLN : Hid ((swpR L (m - i) (m + j - i) i).length = n) := Lib.hid (by rw [swpR_length, hln])
      have n4 : m + (j - i) ≤ n := by omega
      have n1 : decide ((i : Int) ≠ (j : Int)) = true := decide_eq_true (by omega)
      have n2 : decide ((i : Int) > (j : Int)) = false := decide_eq_false (by omega)
      have n3 : decide ((j : Int) < (i : Int)) = false := decide_eq_false (by omega)
      clear hR hown hln
      generalize swpR L (m - i) (m + j - i) i = L2 at *
      generalize m - i = p at *
      generalize m + j - i = q at *
      generalize m + j = mj at *
      go_wp2_with (go_at_call 125; refine HC.out.mono ?_; rintro e w1 ⟨rfl, ho, hg1⟩)
      go_roundw
      case rel => exact ⟨i, j - i, L2, rfl, by go_num, hi1, by omega, hi2, n4, HLN.out, HR.out, ho, grownBy_trans hg hg1⟩
      case measure => simp only [intOf]; omega
    · subst hij
      have HC := Lib.hid (swrI_any (some ⟨g, 0, none⟩) c B n (m - i) m i L wr cmp hln (by omega) (by omega) (by omega) (by omega) hn hown)
      rw [hR.done] at HC
      clear hR hown hln
      generalize m - i = p at *
      go_wp2_with (go_at_call 125; refine HC.out.mono ?_; rintro e w1 ⟨rfl, ho, hg1⟩)
      go_end0
      exact ⟨rfl, ho, grownBy_trans hg hg1⟩
    · have e4 : IntKind.i64.wrap ((i : Int) - (j : Int)) = ((i - j : Nat) : Int) := by rw [Int.ofNat_sub (by omega)]; exact IntWalk.i64_in _ (by omega)
      have HC := Lib.hid (swrI_any (some ⟨g, 0, none⟩) c B n (m - i) m j L wr cmp hln (by omega) (by omega) (by omega) (by omega) hn hown)
      have HR := Lib.hid (hR.big hij)
      have HLN : Hid ((swpR L (m - i) m j).length = n) := Lib.hid (by rw [swpR_length, hln])
      have n1 : decide ((i : Int) ≠ (j : Int)) = true := decide_eq_true (by omega)
      have n2 : decide ((i : Int) > (j : Int)) = true := decide_eq_true (by omega)
      have n3 : decide ((j : Int) < (i : Int)) = true := decide_eq_true (by omega)
      clear hR hown hln
      generalize swpR L (m - i) m j = L2 at *
      generalize m - i = p at *
      go_wp2_with (go_at_call 125; refine HC.out.mono ?_; rintro e w1 ⟨rfl, ho, hg1⟩)
      go_roundw
      case rel => exact ⟨i - j, j, L2, by go_num, rfl, by omega, hj1, by omega, hj2, HLN.out, HR.out, ho, grownBy_trans hg hg1⟩
      case measure => simp only [intOf]; omega

set_option maxHeartbeats 2000000 in
theorem rotF_any (ad : Option Addr) (c B n a m b : Nat) (l G : List Nat) (w : World) (cmp : Value) (hl : l.length = n) (ham : a < m) (hmb : m < b) (hb : b ≤ n) (hR : Rot l m (m - a) (b - m) G) (hn : n ≤ 4096) (hown : w.ownsRow B 33 1 (.slice ad n c) n (fls l)) :
    Calls Try.prog 126 #[.slice ad n c, .int .i64 (a : Int), .int .i64 (m : Int), .int .i64 (b : Int), cmp] w fun e w' => e = .returned (.tuple #[]) ∧ w'.ownsRow B 33 1 (.slice ad n c) n (fls G) ∧ w.grownBy w' (Value.slice ad n c).ownBlock := by
  obtain ⟨g, rfl, hBg, hgl⟩ := own_some hown (by omega)
  have HR := Lib.hid hR
  have HL := Lib.hid hl
  obtain ⟨i0, hi0⟩ : ∃ i0, i0 = m - a := ⟨_, rfl⟩
  obtain ⟨j0, hj0⟩ : ∃ j0, j0 = b - m := ⟨_, rfl⟩
  rw [← hi0, ← hj0] at HR
  have e1 : IntKind.i64.wrap ((m : Int) - (a : Int)) = (i0 : Int) := by rw [hi0, Int.ofNat_sub (by omega)]; exact IntWalk.i64_in _ (by omega)
  have e2 : IntKind.i64.wrap ((b : Int) - (m : Int)) = (j0 : Int) := by rw [hj0, Int.ofNat_sub (by omega)]; exact IntWalk.i64_in _ (by omega)
  have hi1 : 1 ≤ i0 := by omega
  have hj1 : 1 ≤ j0 := by omega
  have hi2 : i0 ≤ m := by omega
  have hj2 : m + j0 ≤ n := by omega
  clear hR hl hi0 hj0
  go_enter Try.func126, Try.ntmps126
  go_wp2
  go_loopw [10, 11] (fun q r wr => ∃ (i j : Nat) (L : List Nat), q = .int .i64 (i : Int) ∧ r = .int .i64 (j : Int) ∧ 1 ≤ i ∧ 1 ≤ j ∧ i ≤ m ∧ m + j ≤ n ∧ L.length = n ∧ Rot L m i j G ∧ wr.ownsRow B 33 1 (.slice (some ⟨g, 0, none⟩) n c) n (fls L) ∧ w.grownBy wr (some g)) (fun q r _ => (intOf q).toNat + (intOf r).toNat)
  case atStart => exact ⟨i0, j0, l, rfl, rfl, hi1, hj1, hi2, hj2, HL.out, HR.out, hown, World.grownBy.refl _ _⟩
  case round =>
    clear hown hi1 hj1 hi2 hj2 HL HR e1 e2
    obtain ⟨i, j, L, rfl, rfl, hi1, hj1, hi2, hj2, hln, hR, hown, hg⟩ := hrel
    have e1 : IntKind.i64.wrap ((m : Int) - (i : Int)) = ((m - i : Nat) : Int) := by rw [Int.ofNat_sub (by omega)]; exact IntWalk.i64_in _ (by omega)
    rcases Nat.lt_trichotomy i j with hij | hij | hij
    · have e2 : IntKind.i64.wrap ((m : Int) + (j : Int)) = ((m + j : Nat) : Int) := by rw [Int.natCast_add]; exact IntWalk.i64_in _ (by omega)
      have e3 : IntKind.i64.wrap (((m + j : Nat) : Int) - (i : Int)) = ((m + j - i : Nat) : Int) := by rw [Int.ofNat_sub (by omega)]; exact IntWalk.i64_in _ (by omega)
      have e4 : IntKind.i64.wrap ((j : Int) - (i : Int)) = ((j - i : Nat) : Int) := by rw [Int.ofNat_sub (by omega)]; exact IntWalk.i64_in _ (by omega)
      have HC := Lib.hid (swrF_any (some ⟨g, 0, none⟩) c B n (m - i) (m + j - i) i L wr cmp hln (by omega) (by omega) (by omega) (by omega) hn hown)
      have HR := Lib.hid (hR.small hij)
      have HLN : Hid ((swpR L (m - i) (m + j - i) i).length = n) := Lib.hid (by rw [swpR_length, hln])
      have n4 : m + (j - i) ≤ n := by omega
      have n1 : decide ((i : Int) ≠ (j : Int)) = true := decide_eq_true (by omega)
      have n2 : decide ((i : Int) > (j : Int)) = false := decide_eq_false (by omega)
      have n3 : decide ((j : Int) < (i : Int)) = false := decide_eq_false (by omega)
      clear hR hown hln
      generalize swpR L (m - i) (m + j - i) i = L2 at *
      generalize m - i = p at *
      generalize m + j - i = q at *
      generalize m + j = mj at *
      go_wp2_with (go_at_call 128; refine HC.out.mono ?_; rintro e w1 ⟨rfl, ho, hg1⟩)
      go_roundw
      case rel => exact ⟨i, j - i, L2, rfl, by go_num, hi1, by omega, hi2, n4, HLN.out, HR.out, ho, grownBy_trans hg hg1⟩
      case measure => simp only [intOf]; omega
    · subst hij
      have HC := Lib.hid (swrF_any (some ⟨g, 0, none⟩) c B n (m - i) m i L wr cmp hln (by omega) (by omega) (by omega) (by omega) hn hown)
      rw [hR.done] at HC
      clear hR hown hln
      generalize m - i = p at *
      go_wp2_with (go_at_call 128; refine HC.out.mono ?_; rintro e w1 ⟨rfl, ho, hg1⟩)
      go_end0
      exact ⟨rfl, ho, grownBy_trans hg hg1⟩
    · have e4 : IntKind.i64.wrap ((i : Int) - (j : Int)) = ((i - j : Nat) : Int) := by rw [Int.ofNat_sub (by omega)]; exact IntWalk.i64_in _ (by omega)
      have HC := Lib.hid (swrF_any (some ⟨g, 0, none⟩) c B n (m - i) m j L wr cmp hln (by omega) (by omega) (by omega) (by omega) hn hown)
      have HR := Lib.hid (hR.big hij)
      have HLN : Hid ((swpR L (m - i) m j).length = n) := Lib.hid (by rw [swpR_length, hln])
      have n1 : decide ((i : Int) ≠ (j : Int)) = true := decide_eq_true (by omega)
      have n2 : decide ((i : Int) > (j : Int)) = true := decide_eq_true (by omega)
      have n3 : decide ((j : Int) < (i : Int)) = true := decide_eq_true (by omega)
      clear hR hown hln
      generalize swpR L (m - i) m j = L2 at *
      generalize m - i = p at *
      go_wp2_with (go_at_call 128; refine HC.out.mono ?_; rintro e w1 ⟨rfl, ho, hg1⟩)
      go_roundw
      case rel => exact ⟨i - j, j, L2, by go_num, rfl, by omega, hj1, by omega, hj2, HLN.out, HR.out, ho, grownBy_trans hg hg1⟩
      case measure => simp only [intOf]; omega

end Go.Proofs.Ytjobgobeiiakgaa
