/- The harness of the laws on lists of texts: marks. -/
import Derived.Test.YtmhffnbneaggiaaHar
import Derived.WalkSmall
import Derived.Laws.IdiomStrings
import Derived.Deep.RegionHeld3
namespace Go.Proofs.Ytmhffnbneaggiaa
set_option linter.unusedSimpArgs false
set_option linter.unusedVariables false
open Go.RowKit

theorem grown_of_below {w w1 : World} (h : Below w.heap.size w w1) (row : Option Nat) : w.grownBy w1 row := ⟨h.os, h.tape, h.output, h.size, fun i hi _ => h.block i hi⟩
/-- Decimal digits ahead of what is written already. -/
def decL : Nat → Nat → List UInt8 → List UInt8
  | 0, _, acc => acc
  | f + 1, k, acc => if k = 0 then acc else decL f (k / 10) (UInt8.ofNat (48 + k % 10) :: acc)
/-- The text that marks a place. -/
def mkT (k : Int) : ByteArray := ⟨(109 :: decL k.toNat k.toNat []).toArray⟩
def strOf (k : Int) : Value := .string (mkT k)
theorem decL_zero (f : Nat) (acc : List UInt8) : decL f 0 acc = acc := by cases f <;> simp [decL]
theorem decL_step (f k : Nat) (acc : List UInt8) (h : 0 < k) (hf : k ≤ f) : decL f k acc = decL (f - 1) (k / 10) (UInt8.ofNat (48 + k % 10) :: acc) := by
  cases f with
  | zero => omega
  | succ f => rw [decL, if_neg (by omega)]; rfl

set_option maxHeartbeats 1000000 in
theorem markText_any (k : Int) (w : World) (h1 : 1 ≤ k) (h2 : k ≤ 4194304) : Calls Try.prog 70 #[.int .i64 k] w fun e w' => e = .returned (strOf k) ∧ Below w.heap.size w w' := by
  obtain ⟨n, rfl⟩ : ∃ n : Nat, k = n := ⟨k.toNat, by omega⟩
  have HM : Hid (strOf (n : Int) = .string ⟨(109 :: decL n n []).toArray⟩) := rfl
  have h3 : ¬ ((n : Int) ≤ 0) := by omega
  go_enter Try.func70, Try.ntmps70
  go_wp2
  go_loopw [0, 3] (fun q s wr => ∃ (m f : Nat) (acc : List UInt8), q = .int .i64 (m : Int) ∧ s = .string ⟨acc.toArray⟩ ∧ m ≤ f ∧ m + acc.length ≤ 4194304 ∧ decL f m acc = decL n n [] ∧ Below w.heap.size w wr) (fun q _ _ => (intOf q).toNat)
  case atStart => exact ⟨n, n, [], rfl, rfl, Nat.le_refl _, by simp; omega, rfl, Below.refl _ _⟩
  case round =>
    obtain ⟨m, f, acc, rfl, rfl, hf, hl, hd, hb⟩ := hrel
    by_cases hlt : 0 < m
    · rw [decL_step f m acc hlt hf] at hd
      have HD := Lib.hid hd
      clear hd
      obtain ⟨ch, hch⟩ : ∃ ch : UInt8, ch = UInt8.ofNat (48 + m % 10) := ⟨_, rfl⟩
      rw [← hch] at HD
      obtain ⟨r, hr⟩ : ∃ r, r = m % 10 := ⟨_, rfl⟩
      obtain ⟨q, hq⟩ : ∃ q, q = m / 10 := ⟨_, rfl⟩
      rw [← hr] at hch
      rw [← hq] at HD
      have hr10 : r < 10 := by omega
      have hc8 : (ch.toNat : Int) = 48 + (r : Int) := by rw [hch]; simp; omega
      have hr1 : (m : Int) % 10 = (r : Int) := by omega
      have hq1 : (m : Int) / 10 = (q : Int) := by omega
      have hw8 : IntKind.u8.wrap (48 + (r : Int)) = (ch.toNat : Int) := by rw [IntKind.wrap_u8]; omega
      have hcv : ∀ W g, W.cell? ⟨g, 0, none⟩ = some (.int .u8 (ch.toNat : Int)) → (convert 75 9 (.slice (some ⟨g, 0, none⟩) 1 1)).run Try.prog W = .ok (.string ⟨[ch].toArray⟩) W := fun W g hW =>
        run_convert_bytes_back (P := Try.prog) W 75 9 5 ⟨g, 0, none⟩ 1 [ch] Try.underlying75 Try.underlying5 Try.underlying9 (fun j hj => by
          have hj0 : j = 0 := by simpa using hj
          subst hj0
          rw [Addr.add_lit, Nat.add_zero]
          exact hW)
      have HQ : Hid (q < m) := by show q < m; omega
      have HF : Hid (q ≤ f - 1) := by show q ≤ _; omega
      clear hch hr hq hc8 hf
      go_wp2
      go_roundw
      case rel => exact ⟨q, f - 1, ch :: acc, rfl, congrArg Value.string (ByteArray.mk_append_mk [ch] acc), HF.out, by have := HQ.out; simp; omega, HD.out, hb.alloc hb.size _⟩
      case measure => have := HQ.out; simp [intOf]; omega
    · obtain rfl : m = 0 := by omega
      rw [decL_zero] at hd
      have HD := Lib.hid hd
      clear hd
      go_wp2
      go_ret
      exact ⟨by rw [HM.out, ← HD.out]; exact congrArg (fun b => Ending.returned (.string b)) (ByteArray.mk_append_mk [109] acc), hb⟩

set_option maxHeartbeats 1000000 in
theorem markStringS_any (a : Option Addr) (n c : Nat) (xs : List Value) (k : Int) (B : Nat) (w : World) (h0 : 1 ≤ k) (h1 : k ≤ 1048576) (hn : n ≤ 1048576) (hown : w.ownsRow B 9 1 (.slice a n c) n xs) :
    Calls Try.prog 29 #[.slice a n c, .int .i64 k] w fun e w' => e = .returned (.int .i64 (k + n)) ∧ w'.ownsRow B 9 1 (.slice a n c) n ((marks k n).map strOf) ∧ w.grownBy w' (Value.slice a n c).ownBlock := by
  have hx : xs.length = n := by simpa using hown.1
  have HX := Lib.hid hx
  clear hx
  go_enter Try.func29, Try.ntmps29
  go_wp2
  go_loopw [1, 5] (fun kk i wr => ∃ j : Nat, j ≤ n ∧ i = .int .i64 j ∧ kk = .int .i64 (k + j) ∧ wr.ownsRow B 9 1 (.slice a n c) n ((marks k j).map strOf ++ xs.drop j) ∧ w.grownBy wr (Value.slice a n c).ownBlock) (fun _ i _ => n - (intOf i).toNat)
  case atStart => exact ⟨0, Nat.zero_le _, rfl, by simp, by simpa [marks] using hown, World.grownBy.refl _ _⟩
  case round =>
    clear hown
    obtain ⟨j, hj, rfl, rfl, hown, hg⟩ := hrel
    by_cases hlt : j < n
    · obtain ⟨g, rfl⟩ : ∃ g, a = some ⟨g, 0, none⟩ := by
        rcases hown.2 with ⟨h, h'⟩ | ⟨g, cap, cur, h, _⟩
        · simp only [Value.slice.injEq] at h; omega
        · simp only [Value.slice.injEq] at h; exact ⟨g, h.1⟩
      obtain ⟨u, hu⟩ : ∃ u, ((marks k j).map strOf ++ xs.drop j)[j]? = some u := ⟨_, List.getElem?_eq_getElem (by simp [marks_length]; have := HX.out; omega)⟩
      have hd := (hown.cellAt j (by omega))
      rw [hu] at hd
      have hf := hown.frozenAt j
      clear hu
      have HSM : Hid (((marks k j).map strOf ++ xs.drop j).set j (strOf (k + j)) = (marks k (j + 1)).map strOf ++ xs.drop (j + 1)) := set_mark k j xs strOf (by rw [HX.out]; exact hlt)
      obtain ⟨tx, htx⟩ : ∃ tx, strOf (k + j) = .string tx := ⟨_, rfl⟩
      have HT : Hid (∀ W, Calls Try.prog 70 #[.int .i64 (k + j)] W fun e w' => e = .returned (.string tx) ∧ Below W.heap.size W w') := by
        show ∀ W, _
        intro W
        rw [← htx]
        exact markText_any (k + j) W (by omega) (by omega)
      rw [htx] at HSM
      clear htx
      go_wp2_with (go_at_call 70; refine (HT.out _).mono ?_; rintro e w1 ⟨rfl, hb1⟩; have hd1 := cell_step hd hb1; have hf1 := (hb1.frozen (p := ⟨g, j, none⟩) (World.block_lt_of_cell? _ _ hd)).trans hf; have hst := (ownsRow_below hown hb1).stored j (.string tx); have hg1 := grownBy_trans (grownBy_trans hg (grown_of_below hb1 _)) hst.2; have hst := hst.1; rw [HSM.out] at hst)
      go_roundw
      case rel => exact ⟨j + 1, by omega, by go_num, by go_num, hst, hg1⟩
      case measure => simp [intOf]; omega
    · obtain rfl : n = j := by omega
      go_wp2
      go_ret
      refine ⟨rfl, ?_, hg⟩
      rw [List.drop_of_length_le (by rw [HX.out]; exact Nat.le_refl _), List.append_nil] at hown
      exact hown

set_option maxHeartbeats 1000000 in
theorem heldStringS_any (v : Value) (n : Nat) (k : Int) (w : World) (h0 : 1 ≤ k) (h1 : k ≤ 1048576) (hn : n ≤ 1048576) (hv : SlR w v ((marks k n).map strOf)) :
    Calls Try.prog 30 #[v, .int .i64 k] w fun e w' => e = .returned (.int .i64 (k + n)) ∧ Below w.heap.size w w' := by
  obtain ⟨a, n', c, rfl, hnl, hnc, hcm, hcell⟩ := SlR.opened 0 hv
  rw [marks_length] at hnl
  subst hnl
  have HC := Lib.hid hcell
  clear hcell hcm hnc hv
  go_enter Try.func30, Try.ntmps30
  go_wp2
  go_loopw [1, 5] (fun kk i wr => ∃ j : Nat, j ≤ n ∧ i = .int .i64 j ∧ kk = .int .i64 (k + j) ∧ Below w.heap.size w wr) (fun _ i _ => n - (intOf i).toNat)
  case atStart => exact ⟨0, Nat.zero_le _, rfl, by simp, Below.refl _ _⟩
  case round =>
    obtain ⟨j, hj, rfl, rfl, hb⟩ := hrel
    by_cases hlt : j < n
    · obtain ⟨b, off, rfl, hc0, hbl⟩ := HC.out j hlt
      rw [List.getD_eq_getElem?_getD, marks_getD n k j hlt] at hc0
      have hc := (hb.cell (p := ⟨b, off + j, none⟩) hbl).trans hc0
      obtain ⟨tx, htx⟩ : ∃ tx, strOf (k + j) = .string tx := ⟨_, rfl⟩
      have HT : Hid (∀ W, Calls Try.prog 70 #[.int .i64 (k + j)] W fun e w' => e = .returned (.string tx) ∧ Below W.heap.size W w') := by
        show ∀ W, _
        intro W
        rw [← htx]
        exact markText_any (k + j) W (by omega) (by omega)
      rw [htx] at hc
      clear htx hc0
      have ht : (!(tx.toList == tx.toList)) = false := by simp
      have i1 : (0 : Int) ≤ (j : Int) := by omega
      have i2 : (j : Int) < (n : Int) := by omega
      go_wp2
      go_region_held3 (fun W => World.cell? W ⟨b, off + j, none⟩ = some (.string tx) ∧ Fr wr W) (first | exact keep1 (by assumption) (by assumption) | exact ⟨hc, (Fr.refl _).drew⟩) (first | (go_at_call 70; (with_reducible refine (HT.out _).mono ?_); rintro e V ⟨rfl, hb1⟩))
      rename_i hHold
      have hbV : Below w.heap.size w V := hb.trans (Below.mono hHold.2 hb.size)
      clear hHold
      go_wp2
      go_roundw
      case rel => exact ⟨j + 1, by omega, by go_num, by go_num, hbV⟩
      case measure => simp [intOf]; omega
    · obtain rfl : n = j := by omega
      go_wp2
      go_ret
      exact ⟨rfl, hb⟩

end Go.Proofs.Ytmhffnbneaggiaa
