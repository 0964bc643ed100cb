/- The library's stable sort: ranges swapped, rotations. -/
import Derived.Test.YtjobgobeiiakgaaSrt
import Derived.Test.YtjobgobeiiakgaaSeg
import Derived.Test.YtjobgobeiiakgaaSym
namespace Go.Proofs.Ytjobgobeiiakgaa
set_option linter.unusedSimpArgs false
set_option linter.unusedVariables false
open Go.RowKit
def fls (l : List Nat) : List Value := l.map fun x => Value.float .f32 x
theorem fls_get (l : List Nat) (k : Nat) (hk : k < l.length) : (fls l)[k]? = some (.float .f32 (l[k]?.getD 0)) := by
  unfold fls; rw [List.getElem?_map, List.getElem?_eq_getElem hk]; rfl
theorem nats_set (l : List Nat) (k x : Nat) : nats (l.set k x) = (nats l).set k (.int .i64 (x : Int)) := by unfold nats; rw [List.map_set]
theorem fls_set (l : List Nat) (k x : Nat) : fls (l.set k x) = (fls l).set k (.float .f32 x) := by unfold fls; rw [List.map_set]
theorem swpR_succ (l : List Nat) (a b k : Nat) : swpR l a b (k + 1) = sw2 (swpR l a b k) (a + k) (b + k) := rfl

set_option maxHeartbeats 2000000 in
theorem swrI_any (ad : Option Addr) (c B n a b k : Nat) (l : List Nat) (w : World) (cmp : Value) (hl : l.length = n) (ha : a + k ≤ n) (hb : b + k ≤ n) (hab : a < b) (h1 : 1 ≤ n) (hn : n ≤ 4096) (hown : w.ownsRow B 2 1 (.slice ad n c) n (nats l)) :
    Calls Try.prog 125 #[.slice ad n c, .int .i64 (a : Int), .int .i64 (b : Int), .int .i64 (k : Int), cmp] w fun e w' => e = .returned (.tuple #[]) ∧ w'.ownsRow B 2 1 (.slice ad n c) n (nats (swpR l a b k)) ∧ w.grownBy w' (Value.slice ad n c).ownBlock := by
  obtain ⟨g, rfl, hBg, hgl⟩ := own_some hown (by omega)
  have HL := Lib.hid hl
  have HS := Lib.hid (swpR_succ l a b)
  have HLEN : Hid (∀ q, (swpR l a b q).length = n) := Lib.hid (fun q => by rw [swpR_length, hl])
  have H0 : Hid (swpR l a b 0 = l) := Lib.hid rfl
  clear hl
  go_enter Try.func125, Try.ntmps125
  go_wp2
  go_loopw [10] (fun q wr => ∃ i : Nat, i ≤ k ∧ q = .int .i64 (i : Int) ∧ wr.ownsRow B 2 1 (.slice (some ⟨g, 0, none⟩) n c) n (nats (swpR l a b i)) ∧ w.grownBy wr (some g)) (fun q _ => k - (intOf q).toNat)
  case atStart => exact ⟨0, Nat.zero_le _, rfl, by rw [H0.out]; exact hown, World.grownBy.refl _ _⟩
  case round =>
    clear hown
    obtain ⟨i, hi, rfl, hown, hg⟩ := hrel
    by_cases hik : i < k
    · obtain ⟨p, hp⟩ : ∃ p, p = a + i := ⟨_, rfl⟩
      obtain ⟨q, hq⟩ : ∃ q, q = b + i := ⟨_, rfl⟩
      have hln := HLEN.out i
      have hsc := HS.out i
      rw [← hp, ← hq] at hsc
      have HSC := Lib.hid hsc
      clear hsc
      generalize swpR l a b i = L at *
      have c1 := hown.cellAt p (by omega)
      have c2 := hown.cellAt q (by omega)
      rw [nats_get L _ (by omega)] at c1 c2
      have f1 := hown.frozenAt p
      have f2 := hown.frozenAt q
      have HST : Hid (((wr.setCell ⟨g, p, none⟩ ((fun q : Nat => Value.int .i64 (q : Int)) (L[q]?.getD 0))).setCell ⟨g, q, none⟩ ((fun q : Nat => Value.int .i64 (q : Int)) (L[p]?.getD 0))).ownsRow B 2 1 (.slice (some ⟨g, 0, none⟩) n c) n (nats (sw2 L p q))) := by
        show World.ownsRow _ _ _ _ _ _ _
        have := ((hown.stored p ((fun q : Nat => Value.int .i64 (q : Int)) (L[q]?.getD 0))).1.stored q ((fun q : Nat => Value.int .i64 (q : Int)) (L[p]?.getD 0))).1
        unfold sw2
        rw [nats_set, nats_set]
        exact this
      have HGR : Hid (w.grownBy ((wr.setCell ⟨g, p, none⟩ ((fun q : Nat => Value.int .i64 (q : Int)) (L[q]?.getD 0))).setCell ⟨g, q, none⟩ ((fun q : Nat => Value.int .i64 (q : Int)) (L[p]?.getD 0))) (some g)) := by
        show World.grownBy _ _ _
        exact grownBy_trans (grownBy_trans hg (hown.stored p _).2) ((hown.stored p _).1.stored q _).2
      generalize L[p]?.getD 0 = x at *
      generalize L[q]?.getD 0 = y at *
      have e1 : IntKind.i64.wrap ((a : Int) + (i : Int)) = (p : Int) := by rw [hp, Int.natCast_add]; exact IntWalk.i64_in _ (by omega)
      have e2 : IntKind.i64.wrap ((b : Int) + (i : Int)) = (q : Int) := by rw [hq, Int.natCast_add]; exact IntWalk.i64_in _ (by omega)
      have g1 : (p : Int) < (n : Int) := by omega
      have g2 : (q : Int) < (n : Int) := by omega
      have hpq : p ≠ q := by omega
      have d1 : (wr.setCell ⟨g, p, none⟩ ((fun q : Nat => Value.int .i64 (q : Int)) y)).cell? ⟨g, q, none⟩ = some ((fun q : Nat => Value.int .i64 (q : Int)) y) := (World.cell?_setCell_other _ _ _ _ (fun e => hpq (congrArg Addr.off e))).trans c2
      have d2 : (wr.setCell ⟨g, q, none⟩ ((fun q : Nat => Value.int .i64 (q : Int)) x)).cell? ⟨g, p, none⟩ = some ((fun q : Nat => Value.int .i64 (q : Int)) x) := (World.cell?_setCell_other _ _ _ _ (fun e => hpq (congrArg Addr.off e).symm)).trans c1
      clear hp hq
      go_wp2
      go_region
      go_wp2
      go_roundw
      case rel => exact ⟨i + 1, by omega, by go_num, by rw [HSC.out]; exact own_drew HST.out, grown_drew HGR.out⟩
      case measure => simp only [intOf]; omega
    · obtain rfl : i = k := by omega
      go_wp2
      go_end0
      exact ⟨rfl, hown, hg⟩

set_option maxHeartbeats 2000000 in
theorem swrF_any (ad : Option Addr) (c B n a b k : Nat) (l : List Nat) (w : World) (cmp : Value) (hl : l.length = n) (ha : a + k ≤ n) (hb : b + k ≤ n) (hab : a < b) (h1 : 1 ≤ n) (hn : n ≤ 4096) (hown : w.ownsRow B 33 1 (.slice ad n c) n (fls l)) :
    Calls Try.prog 128 #[.slice ad n c, .int .i64 (a : Int), .int .i64 (b : Int), .int .i64 (k : Int), cmp] w fun e w' => e = .returned (.tuple #[]) ∧ w'.ownsRow B 33 1 (.slice ad n c) n (fls (swpR l a b k)) ∧ w.grownBy w' (Value.slice ad n c).ownBlock := by
  obtain ⟨g, rfl, hBg, hgl⟩ := own_some hown (by omega)
  have HL := Lib.hid hl
  have HS := Lib.hid (swpR_succ l a b)
  have HLEN : Hid (∀ q, (swpR l a b q).length = n) := Lib.hid (fun q => by rw [swpR_length, hl])
  have H0 : Hid (swpR l a b 0 = l) := Lib.hid rfl
  clear hl
  go_enter Try.func128, Try.ntmps128
  go_wp2
  go_loopw [10] (fun q wr => ∃ i : Nat, i ≤ k ∧ q = .int .i64 (i : Int) ∧ wr.ownsRow B 33 1 (.slice (some ⟨g, 0, none⟩) n c) n (fls (swpR l a b i)) ∧ w.grownBy wr (some g)) (fun q _ => k - (intOf q).toNat)
  case atStart => exact ⟨0, Nat.zero_le _, rfl, by rw [H0.out]; exact hown, World.grownBy.refl _ _⟩
  case round =>
    clear hown
    obtain ⟨i, hi, rfl, hown, hg⟩ := hrel
    by_cases hik : i < k
    · obtain ⟨p, hp⟩ : ∃ p, p = a + i := ⟨_, rfl⟩
      obtain ⟨q, hq⟩ : ∃ q, q = b + i := ⟨_, rfl⟩
      have hln := HLEN.out i
      have hsc := HS.out i
      rw [← hp, ← hq] at hsc
      have HSC := Lib.hid hsc
      clear hsc
      generalize swpR l a b i = L at *
      have c1 := hown.cellAt p (by omega)
      have c2 := hown.cellAt q (by omega)
      rw [fls_get L _ (by omega)] at c1 c2
      have f1 := hown.frozenAt p
      have f2 := hown.frozenAt q
      have HST : Hid (((wr.setCell ⟨g, p, none⟩ ((fun q : Nat => Value.float .f32 q) (L[q]?.getD 0))).setCell ⟨g, q, none⟩ ((fun q : Nat => Value.float .f32 q) (L[p]?.getD 0))).ownsRow B 33 1 (.slice (some ⟨g, 0, none⟩) n c) n (fls (sw2 L p q))) := by
        show World.ownsRow _ _ _ _ _ _ _
        have := ((hown.stored p ((fun q : Nat => Value.float .f32 q) (L[q]?.getD 0))).1.stored q ((fun q : Nat => Value.float .f32 q) (L[p]?.getD 0))).1
        unfold sw2
        rw [fls_set, fls_set]
        exact this
      have HGR : Hid (w.grownBy ((wr.setCell ⟨g, p, none⟩ ((fun q : Nat => Value.float .f32 q) (L[q]?.getD 0))).setCell ⟨g, q, none⟩ ((fun q : Nat => Value.float .f32 q) (L[p]?.getD 0))) (some g)) := by
        show World.grownBy _ _ _
        exact grownBy_trans (grownBy_trans hg (hown.stored p _).2) ((hown.stored p _).1.stored q _).2
      generalize L[p]?.getD 0 = x at *
      generalize L[q]?.getD 0 = y at *
      have e1 : IntKind.i64.wrap ((a : Int) + (i : Int)) = (p : Int) := by rw [hp, Int.natCast_add]; exact IntWalk.i64_in _ (by omega)
      have e2 : IntKind.i64.wrap ((b : Int) + (i : Int)) = (q : Int) := by rw [hq, Int.natCast_add]; exact IntWalk.i64_in _ (by omega)
      have g1 : (p : Int) < (n : Int) := by omega
      have g2 : (q : Int) < (n : Int) := by omega
      have hpq : p ≠ q := by omega
      have d1 : (wr.setCell ⟨g, p, none⟩ ((fun q : Nat => Value.float .f32 q) y)).cell? ⟨g, q, none⟩ = some ((fun q : Nat => Value.float .f32 q) y) := (World.cell?_setCell_other _ _ _ _ (fun e => hpq (congrArg Addr.off e))).trans c2
      have d2 : (wr.setCell ⟨g, q, none⟩ ((fun q : Nat => Value.float .f32 q) x)).cell? ⟨g, p, none⟩ = some ((fun q : Nat => Value.float .f32 q) x) := (World.cell?_setCell_other _ _ _ _ (fun e => hpq (congrArg Addr.off e).symm)).trans c1
      clear hp hq
      go_wp2
      go_region
      go_wp2
      go_roundw
      case rel => exact ⟨i + 1, by omega, by go_num, by rw [HSC.out]; exact own_drew HST.out, grown_drew HGR.out⟩
      case measure => simp only [intOf]; omega
    · obtain rfl : i = k := by omega
      go_wp2
      go_end0
      exact ⟨rfl, hown, hg⟩

end Go.Proofs.Ytjobgobeiiakgaa
