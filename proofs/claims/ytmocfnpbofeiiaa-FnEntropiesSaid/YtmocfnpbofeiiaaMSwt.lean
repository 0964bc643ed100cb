/- The library's stable sort: ranges swapped, rotations. -/
import Derived.Test.YtmocfnpbofeiiaaMSrg
import Derived.Test.YtmocfnpbofeiiaaMMevP
namespace Go.Proofs.Ytmocfnpbofeiiaa
set_option linter.unusedSimpArgs false
set_option linter.unusedVariables false
open Go.RowKit
def fls (l : List Nat) : List Value := l.map fun x => Value.float .f32 x
theorem fls_get (l : List Nat) (k : Nat) (hk : k < l.length) : (fls l)[k]? = some (.float .f32 (l[k]?.getD 0)) := by
  unfold fls; rw [List.getElem?_map, List.getElem?_eq_getElem hk]; rfl
theorem nats_set (l : List Nat) (k x : Nat) : nats (l.set k x) = (nats l).set k (.int .i64 (x : Int)) := by unfold nats; rw [List.map_set]
theorem fls_set (l : List Nat) (k x : Nat) : fls (l.set k x) = (fls l).set k (.float .f32 x) := by unfold fls; rw [List.map_set]
theorem swpR_succ (l : List Nat) (a b k : Nat) : swpR l a b (k + 1) = sw2 (swpR l a b k) (a + k) (b + k) := rfl

set_option maxHeartbeats 2000000 in
theorem swrF_any (ad : Option Addr) (c B n a b k : Nat) (l : List Nat) (w : World) (cmp : Value) (hl : l.length = n) (ha : a + k ≤ n) (hb : b + k ≤ n) (hab : a < b) (h1 : 1 ≤ n) (hn : n ≤ 4096) (hown : w.ownsRow B 32 1 (.slice ad n c) n (fls l)) :
    Calls Try.prog 154 #[.slice ad n c, .int .i64 (a : Int), .int .i64 (b : Int), .int .i64 (k : Int), cmp] w fun e w' => e = .returned (.tuple #[]) ∧ w'.ownsRow B 32 1 (.slice ad n c) n (fls (swpR l a b k)) ∧ w.grownBy w' (Value.slice ad n c).ownBlock := by
  obtain ⟨g, rfl, hBg, hgl⟩ := own_some hown (by omega)
  have HL := Lib.hid hl
  have HS := Lib.hid (swpR_succ l a b)
  have HLEN : Hid (∀ q, (swpR l a b q).length = n) := Lib.hid (fun q => by rw [swpR_length, hl])
  have H0 : Hid (swpR l a b 0 = l) := Lib.hid rfl
  clear hl
  go_enter Try.func154, Try.ntmps154
  go_wp2
  go_loopw [10] (fun q wr => ∃ i : Nat, i ≤ k ∧ q = .int .i64 (i : Int) ∧ wr.ownsRow B 32 1 (.slice (some ⟨g, 0, none⟩) n c) n (fls (swpR l a b i)) ∧ w.grownBy wr (some g)) (fun q _ => k - (intOf q).toNat)
  case atStart => exact ⟨0, Nat.zero_le _, rfl, by rw [H0.out]; exact hown, World.grownBy.refl _ _⟩
  case round =>
    clear hown
    obtain ⟨i, hi, rfl, hown, hg⟩ := hrel
    by_cases hik : i < k
    · obtain ⟨p, hp⟩ : ∃ p, p = a + i := ⟨_, rfl⟩
      obtain ⟨q, hq⟩ : ∃ q, q = b + i := ⟨_, rfl⟩
      have hln := HLEN.out i
      have hsc := HS.out i
      rw [← hp, ← hq] at hsc
      have HSC := Lib.hid hsc
      clear hsc
      generalize swpR l a b i = L at *
      have c1 := hown.cellAt p (by omega)
      have c2 := hown.cellAt q (by omega)
      rw [fls_get L _ (by omega)] at c1 c2
      have f1 := hown.frozenAt p
      have f2 := hown.frozenAt q
      have HST : Hid (((wr.setCell ⟨g, p, none⟩ ((fun q : Nat => Value.float .f32 q) (L[q]?.getD 0))).setCell ⟨g, q, none⟩ ((fun q : Nat => Value.float .f32 q) (L[p]?.getD 0))).ownsRow B 32 1 (.slice (some ⟨g, 0, none⟩) n c) n (fls (sw2 L p q))) := by
        show World.ownsRow _ _ _ _ _ _ _
        have := ((hown.stored p ((fun q : Nat => Value.float .f32 q) (L[q]?.getD 0))).1.stored q ((fun q : Nat => Value.float .f32 q) (L[p]?.getD 0))).1
        unfold sw2
        rw [fls_set, fls_set]
        exact this
      have HGR : Hid (w.grownBy ((wr.setCell ⟨g, p, none⟩ ((fun q : Nat => Value.float .f32 q) (L[q]?.getD 0))).setCell ⟨g, q, none⟩ ((fun q : Nat => Value.float .f32 q) (L[p]?.getD 0))) (some g)) := by
        show World.grownBy _ _ _
        exact grownBy_trans (grownBy_trans hg (hown.stored p _).2) ((hown.stored p _).1.stored q _).2
      generalize L[p]?.getD 0 = x at *
      generalize L[q]?.getD 0 = y at *
      have e1 : IntKind.i64.wrap ((a : Int) + (i : Int)) = (p : Int) := by rw [hp, Int.natCast_add]; exact IntWalk.i64_in _ (by omega)
      have e2 : IntKind.i64.wrap ((b : Int) + (i : Int)) = (q : Int) := by rw [hq, Int.natCast_add]; exact IntWalk.i64_in _ (by omega)
      have g1 : (p : Int) < (n : Int) := by omega
      have g2 : (q : Int) < (n : Int) := by omega
      have hpq : p ≠ q := by omega
      have d1 : (wr.setCell ⟨g, p, none⟩ ((fun q : Nat => Value.float .f32 q) y)).cell? ⟨g, q, none⟩ = some ((fun q : Nat => Value.float .f32 q) y) := (World.cell?_setCell_other _ _ _ _ (fun e => hpq (congrArg Addr.off e))).trans c2
      have d2 : (wr.setCell ⟨g, q, none⟩ ((fun q : Nat => Value.float .f32 q) x)).cell? ⟨g, p, none⟩ = some ((fun q : Nat => Value.float .f32 q) x) := (World.cell?_setCell_other _ _ _ _ (fun e => hpq (congrArg Addr.off e).symm)).trans c1
      clear hp hq
      go_wp2
      go_region
      go_wp2
      go_roundw
      case rel => exact ⟨i + 1, by omega, by go_num, by rw [HSC.out]; exact own_drew HST.out, grown_drew HGR.out⟩
      case measure => simp only [intOf]; omega
    · obtain rfl : i = k := by omega
      go_wp2
      go_end0
      exact ⟨rfl, hown, hg⟩

end Go.Proofs.Ytmocfnpbofeiiaa

/- The library's stable sort: two parts side by side exchanged. -/
namespace Go.Proofs.Ytmocfnpbofeiiaa
set_option linter.unusedSimpArgs false
set_option linter.unusedVariables false
open Go.RowKit

set_option maxHeartbeats 2000000 in
theorem rotF_any (ad : Option Addr) (c B n a m b : Nat) (l G : List Nat) (w : World) (cmp : Value) (hl : l.length = n) (ham : a < m) (hmb : m < b) (hb : b ≤ n) (hR : Rot l m (m - a) (b - m) G) (hn : n ≤ 4096) (hown : w.ownsRow B 32 1 (.slice ad n c) n (fls l)) :
    Calls Try.prog 152 #[.slice ad n c, .int .i64 (a : Int), .int .i64 (m : Int), .int .i64 (b : Int), cmp] w fun e w' => e = .returned (.tuple #[]) ∧ w'.ownsRow B 32 1 (.slice ad n c) n (fls G) ∧ w.grownBy w' (Value.slice ad n c).ownBlock := by
  obtain ⟨g, rfl, hBg, hgl⟩ := own_some hown (by omega)
  have HR := Lib.hid hR
  have HL := Lib.hid hl
  obtain ⟨i0, hi0⟩ : ∃ i0, i0 = m - a := ⟨_, rfl⟩
  obtain ⟨j0, hj0⟩ : ∃ j0, j0 = b - m := ⟨_, rfl⟩
  rw [← hi0, ← hj0] at HR
  have e1 : IntKind.i64.wrap ((m : Int) - (a : Int)) = (i0 : Int) := by rw [hi0, Int.ofNat_sub (by omega)]; exact IntWalk.i64_in _ (by omega)
  have e2 : IntKind.i64.wrap ((b : Int) - (m : Int)) = (j0 : Int) := by rw [hj0, Int.ofNat_sub (by omega)]; exact IntWalk.i64_in _ (by omega)
  have hi1 : 1 ≤ i0 := by omega
  have hj1 : 1 ≤ j0 := by omega
  have hi2 : i0 ≤ m := by omega
  have hj2 : m + j0 ≤ n := by omega
  clear hR hl hi0 hj0
  go_enter Try.func152, Try.ntmps152
  go_wp2
  go_loopw [10, 11] (fun q r wr => ∃ (i j : Nat) (L : List Nat), q = .int .i64 (i : Int) ∧ r = .int .i64 (j : Int) ∧ 1 ≤ i ∧ 1 ≤ j ∧ i ≤ m ∧ m + j ≤ n ∧ L.length = n ∧ Rot L m i j G ∧ wr.ownsRow B 32 1 (.slice (some ⟨g, 0, none⟩) n c) n (fls L) ∧ w.grownBy wr (some g)) (fun q r _ => (intOf q).toNat + (intOf r).toNat)
  case atStart => exact ⟨i0, j0, l, rfl, rfl, hi1, hj1, hi2, hj2, HL.out, HR.out, hown, World.grownBy.refl _ _⟩
  case round =>
    clear hown hi1 hj1 hi2 hj2 HL HR e1 e2
    obtain ⟨i, j, L, rfl, rfl, hi1, hj1, hi2, hj2, hln, hR, hown, hg⟩ := hrel
    have e1 : IntKind.i64.wrap ((m : Int) - (i : Int)) = ((m - i : Nat) : Int) := by rw [Int.ofNat_sub (by omega)]; exact IntWalk.i64_in _ (by omega)
    rcases Nat.lt_trichotomy i j with hij | hij | hij
    · have e2 : IntKind.i64.wrap ((m : Int) + (j : Int)) = ((m + j : Nat) : Int) := by rw [Int.natCast_add]; exact IntWalk.i64_in _ (by omega)
      have e3 : IntKind.i64.wrap (((m + j : Nat) : Int) - (i : Int)) = ((m + j - i : Nat) : Int) := by rw [Int.ofNat_sub (by omega)]; exact IntWalk.i64_in _ (by omega)
      have e4 : IntKind.i64.wrap ((j : Int) - (i : Int)) = ((j - i : Nat) : Int) := by rw [Int.ofNat_sub (by omega)]; exact IntWalk.i64_in _ (by omega)
      have HC := Lib.hid (swrF_any (some ⟨g, 0, none⟩) c B n (m - i) (m + j - i) i L wr cmp hln (by omega) (by omega) (by omega) (by omega) hn hown)
      have HR := Lib.hid (hR.small hij)
      have HLN : Hid ((swpR L (m - i) (m + j - i) i).length = n) := Lib.hid (by rw [swpR_length, hln])
      have n4 : m + (j - i) ≤ n := by omega
      have n1 : decide ((i : Int) ≠ (j : Int)) = true := decide_eq_true (by omega)
      have n2 : decide ((i : Int) > (j : Int)) = false := decide_eq_false (by omega)
      have n3 : decide ((j : Int) < (i : Int)) = false := decide_eq_false (by omega)
      clear hR hown hln
      generalize swpR L (m - i) (m + j - i) i = L2 at *
      generalize m - i = p at *
      generalize m + j - i = q at *
      generalize m + j = mj at *
      go_wp2_with (go_at_call 154; refine HC.out.mono ?_; rintro e w1 ⟨rfl, ho, hg1⟩)
      go_roundw
      case rel => exact ⟨i, j - i, L2, rfl, by go_num, hi1, by omega, hi2, n4, HLN.out, HR.out, ho, grownBy_trans hg hg1⟩
      case measure => simp only [intOf]; omega
    · subst hij
      have HC := Lib.hid (swrF_any (some ⟨g, 0, none⟩) c B n (m - i) m i L wr cmp hln (by omega) (by omega) (by omega) (by omega) hn hown)
      rw [hR.done] at HC
      clear hR hown hln
      generalize m - i = p at *
      go_wp2_with (go_at_call 154; refine HC.out.mono ?_; rintro e w1 ⟨rfl, ho, hg1⟩)
      go_end0
      exact ⟨rfl, ho, grownBy_trans hg hg1⟩
    · have e4 : IntKind.i64.wrap ((i : Int) - (j : Int)) = ((i - j : Nat) : Int) := by rw [Int.ofNat_sub (by omega)]; exact IntWalk.i64_in _ (by omega)
      have HC := Lib.hid (swrF_any (some ⟨g, 0, none⟩) c B n (m - i) m j L wr cmp hln (by omega) (by omega) (by omega) (by omega) hn hown)
      have HR := Lib.hid (hR.big hij)
      have HLN : Hid ((swpR L (m - i) m j).length = n) := Lib.hid (by rw [swpR_length, hln])
      have n1 : decide ((i : Int) ≠ (j : Int)) = true := decide_eq_true (by omega)
      have n2 : decide ((i : Int) > (j : Int)) = true := decide_eq_true (by omega)
      have n3 : decide ((j : Int) < (i : Int)) = true := decide_eq_true (by omega)
      clear hR hown hln
      generalize swpR L (m - i) m j = L2 at *
      generalize m - i = p at *
      go_wp2_with (go_at_call 154; refine HC.out.mono ?_; rintro e w1 ⟨rfl, ho, hg1⟩)
      go_roundw
      case rel => exact ⟨i - j, j, L2, by go_num, rfl, by omega, hj1, by omega, hj2, HLN.out, HR.out, ho, grownBy_trans hg hg1⟩
      case measure => simp only [intOf]; omega

end Go.Proofs.Ytmocfnpbofeiiaa
