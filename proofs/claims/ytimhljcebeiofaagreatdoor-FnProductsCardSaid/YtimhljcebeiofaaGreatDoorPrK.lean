/- Draws of any numbers: some words. -/
import Derived.Test.YtimhljcebeiofaaGreatDoorPrE
namespace Go.Proofs.YtimhljcebeiofaaGreatDoor
set_option linter.unusedSimpArgs false
set_option linter.unusedVariables false
open Go.RowKit
/-- A plain number's word: sevenths or sixteenths. -/
def Pl (x : Nat) : Prop := ∃ y : Nat, y < 129 ∧ (x = fA .quo .f32 (floatOfInt .f32 ((y : Int) - 64)) 1088421888 ∨ x = fA .quo .f32 (floatOfInt .f32 ((y : Int) - 64)) 1098907648)
theorem pl_quo : ∀ y : Nat, y < 129 → (floatBits .quo .f32 (floatOfInt .f32 ((y : Int) - 64)) 1088421888).isSome = true ∧ (floatBits .quo .f32 (floatOfInt .f32 ((y : Int) - 64)) 1098907648).isSome = true := by decide +kernel
theorem pl_lt : ∀ y : Nat, y < 129 → fA .quo .f32 (floatOfInt .f32 ((y : Int) - 64)) 1088421888 < 4294967296 ∧ fA .quo .f32 (floatOfInt .f32 ((y : Int) - 64)) 1098907648 < 4294967296 := by decide +kernel
def plB (x c : Nat) : Bool := (floatBits .mul .f32 x c).isSome && decide (fA .mul .f32 x c < 4294967296)
theorem pl_mul0 : ∀ y : Nat, y < 129 → [8388608, 2130706432, 1610612736, 536870912].all (fun c => plB (fA .quo .f32 (floatOfInt .f32 ((y : Int) - 64)) 1088421888) c && plB (fA .quo .f32 (floatOfInt .f32 ((y : Int) - 64)) 1098907648) c) = true := by decide +kernel
theorem Pl.lt {x : Nat} (h : Pl x) : x < 4294967296 := by
  obtain ⟨y, hy, rfl | rfl⟩ := h
  · exact (pl_lt y hy).1
  · exact (pl_lt y hy).2
theorem Pl.mul {x c : Nat} (h : Pl x) (hc : c ∈ [8388608, 2130706432, 1610612736, 536870912]) : (floatBits .mul .f32 x c).isSome = true ∧ fA .mul .f32 x c < 4294967296 := by
  have k : plB x c = true := by
    obtain ⟨y, hy, e⟩ := h
    have := List.all_eq_true.1 (pl_mul0 y hy) c hc
    rw [Bool.and_eq_true] at this
    rcases e with rfl | rfl
    · exact this.1
    · exact this.2
  unfold plB at k
  rw [Bool.and_eq_true] at k
  exact ⟨k.1, of_decide_eq_true k.2⟩
theorem fine_lt : ∀ y : Nat, y < 65 → (floatBits .quo .f32 (floatOfInt .f32 ((y : Int) - 32)) 1098907648).isSome = true ∧ fA .quo .f32 (floatOfInt .f32 ((y : Int) - 32)) 1098907648 < 4294967296 := by decide +kernel

theorem pickN_any (w0 W : World) (b m : Nat) (n : Int) (sv : Value) (l : List UInt8) (hl : l.length ≤ 1048576) (hm : m ≤ 1000000) (hn1 : 2 ≤ n) (hn : n ≤ 100000) (hv : SlR w0 sv (byv l)) (h : Src w0 b sv m W) :
    Calls Tryz.prog 28 #[.pointer (some ⟨b, 0, none⟩), .int .i64 n] W fun e w' => (∃ x : Nat, (x : Int) < n ∧ e = .returned (.int .i64 (x : Int))) ∧ Src w0 b sv (m + 2) w' ∧ W.grownBy w' (some b) := by
  obtain ⟨k, rfl⟩ : ∃ k : Nat, n = (k : Int) := ⟨n.toNat, by omega⟩
  by_cases hk : k ≤ 200
  · refine (pick_any w0 W b m k sv l hl (by omega) (by omega) hk hv h).mono ?_
    rintro e w' ⟨⟨x, hx, rfl⟩, h2, h3⟩
    exact ⟨⟨x, by omega, rfl⟩, h2.mono (by omega), h3⟩
  · refine (pickW_any w0 W b m k sv l hl hm (by omega) (by omega) hv h).mono ?_
    rintro e w' ⟨⟨x, hx, rfl⟩, h2, h3⟩
    exact ⟨⟨x, by omega, rfl⟩, h2, h3⟩
/-- What a call that draws leaves: a word with Q, the source, and nothing else turned. -/
def Dw (w0 : World) (b : Nat) (sv : Value) (m : Nat) (W : World) (Q : Value → Prop) (e : Ending) (w' : World) : Prop := (∃ v, Q v ∧ e = .returned v) ∧ Src w0 b sv m w' ∧ W.grownBy w' (some b)

set_option maxHeartbeats 400000 in
theorem one_any (w0 W : World) (b m : Nat) (n : Int) (sv : Value) (l : List UInt8) (hl : l.length ≤ 1048576) (hm : m ≤ 1000000) (hn1 : 2 ≤ n) (hn : n ≤ 100000) (hv : SlR w0 sv (byv l)) (h : Src w0 b sv m W) :
    Calls Tryz.prog 40 #[.pointer (some ⟨b, 0, none⟩), .int .i64 n] W fun e w' => (∃ t : Bool, e = .returned (.bool t)) ∧ Src w0 b sv (m + 2) w' ∧ W.grownBy w' (some b) := by
  have HP := Lib.hid (pickN_any w0 W b m n sv l hl hm hn1 hn hv h)
  clear hv h
  go_enter Tryz.func40, Tryz.ntmps40
  go_wp2_with (go_at_call 28; refine HP.out.mono ?_; rintro e w1 ⟨⟨x, hx, rfl⟩, hs, hg⟩)
  go_ret
  exact ⟨⟨_, rfl⟩, hs, hg⟩

set_option maxHeartbeats 1000000 in
theorem among_any (w0 W : World) (b m q c n : Nat) (sv : Value) (l : List UInt8) (ts : List Nat) (hl : l.length ≤ 1048576) (hm : m ≤ 1000000) (hn1 : 2 ≤ n) (hn : n ≤ 200) (hv : SlR w0 sv (byv l)) (h : Src w0 b sv m W)
    (hq : q ≠ b) (hc : ∀ k, k < n → W.cell? ⟨q, k, none⟩ = some (.int .i64 ((ts[k]?.getD 0 : Nat) : Int))) :
    Calls Tryz.prog 62 #[.pointer (some ⟨b, 0, none⟩), .slice (some ⟨q, 0, none⟩) n c] W fun e w' => (∃ x : Nat, x < n ∧ e = .returned (.int .i64 ((ts[x]?.getD 0 : Nat) : Int))) ∧ Src w0 b sv (m + 2) w' ∧ W.grownBy w' (some b) := by
  have HP := Lib.hid (pick_any w0 W b m n sv l hl (by omega) hn1 hn hv h)
  have HC := Lib.hid hc
  clear hv h hc
  go_enter Tryz.func62, Tryz.ntmps62
  go_wp2_with (go_at_call 28; refine HP.out.mono ?_; rintro e w1 ⟨⟨x, hx, rfl⟩, hs, hg⟩; have hcx := World.grownBy.cell hg (HC.out x hx) (fun e => hq (by simpa using e)))
  go_ret
  exact ⟨⟨x, hx, rfl⟩, hs.mono (by omega), hg⟩

set_option maxHeartbeats 2000000 in
theorem drawPlain_any (w0 W : World) (b m : Nat) (sv : Value) (l : List UInt8) (hl : l.length ≤ 1048576) (hm : m ≤ 900000) (hv : SlR w0 sv (byv l)) (h : Src w0 b sv m W) :
    Calls Tryz.prog 61 #[.pointer (some ⟨b, 0, none⟩)] W fun e w' => (∃ x : Nat, Pl x ∧ e = .returned (.float .f32 x)) ∧ Src w0 b sv (m + 4) w' ∧ W.grownBy w' (some b) := by
  have HP := Lib.hid (pickN_any w0 W b m 129 sv l hl (by omega) (by omega) (by omega) hv h)
  have HO : Hid (∀ W', Src w0 b sv (m + 2) W' → Calls Tryz.prog 40 #[.pointer (some ⟨b, 0, none⟩), .int .i64 4] W' fun e w' => (∃ t : Bool, e = .returned (.bool t)) ∧ Src w0 b sv (m + 2 + 2) w' ∧ W'.grownBy w' (some b)) := Lib.hid fun W' h' => one_any w0 W' b (m + 2) 4 sv l hl (by omega) (by omega) (by omega) hv h'
  have HQ := Lib.hid pl_quo
  clear hv h
  go_enter Tryz.func61, Tryz.ntmps61
  go_wp2_with (first
    | (go_at_call 40; refine (HO.out _ hs).mono ?_; rintro e w2 ⟨⟨t, rfl⟩, hs2, hg2⟩; obtain ⟨hq1, hq2⟩ := HQ.out x (by omega); cases t)
    | (go_at_call 28; refine HP.out.mono ?_; rintro e w1 ⟨⟨x, hx, rfl⟩, hs, hg⟩))
  · go_ret
    exact ⟨⟨_, ⟨x, by omega, .inr rfl⟩, rfl⟩, hs2, grownBy_trans hg hg2⟩
  · go_ret
    exact ⟨⟨_, ⟨x, by omega, .inl rfl⟩, rfl⟩, hs2, grownBy_trans hg hg2⟩

set_option maxHeartbeats 2000000 in
theorem drawFine_any (w0 W : World) (b m : Nat) (sv : Value) (l : List UInt8) (hl : l.length ≤ 1048576) (hm : m ≤ 900000) (hv : SlR w0 sv (byv l)) (h : Src w0 b sv m W) :
    Calls Tryz.prog 47 #[.pointer (some ⟨b, 0, none⟩)] W fun e w' => (∃ x y : Nat, x < 4294967296 ∧ y < 4294967296 ∧ e = .returned (.complex .f32 x y)) ∧ Src w0 b sv (m + 4) w' ∧ W.grownBy w' (some b) := by
  have HP : Hid (∀ W' m', m' ≤ m + 2 → Src w0 b sv m' W' → Calls Tryz.prog 28 #[.pointer (some ⟨b, 0, none⟩), .int .i64 65] W' fun e w' => (∃ x : Nat, (x : Int) < 65 ∧ e = .returned (.int .i64 (x : Int))) ∧ Src w0 b sv (m' + 2) w' ∧ W'.grownBy w' (some b)) := Lib.hid fun W' m' hm' h' => pickN_any w0 W' b m' 65 sv l hl (by omega) (by omega) (by omega) hv h'
  have HQ := Lib.hid fine_lt
  clear hv
  go_enter Tryz.func47, Tryz.ntmps47
  go_wp2_with (first
    | (go_at_call 28; refine (HP.out _ _ (by omega) hs).mono ?_; rintro e w2 ⟨⟨y, hy, rfl⟩, hs2, hg2⟩; obtain ⟨hq3, hq4⟩ := HQ.out y (by omega))
    | (go_at_call 28; refine (HP.out _ _ (by omega) h).mono ?_; rintro e w1 ⟨⟨x, hx, rfl⟩, hs, hg⟩; obtain ⟨hq1, hq2⟩ := HQ.out x (by omega)))
  go_ret
  exact ⟨⟨_, _, hq2, hq4, rfl⟩, hs2, grownBy_trans hg hg2⟩
theorem Src.alloc {w0 W : World} {b m : Nat} {sv : Value} (h : Src w0 b sv m W) (o : Obj) : Src w0 b sv m (W.alloc o) := by
  have hb : Below W.heap.size W (W.alloc o) := (Below.refl _ _).alloc (Nat.le_refl _) o
  exact h.lower (hb.mono (Nat.succ_le_of_lt h.2.1))

set_option maxRecDepth 4000 in
set_option maxHeartbeats 4000000 in
theorem drawFloat_any (w0 W : World) (b m : Nat) (sv : Value) (l : List UInt8) (hl : l.length ≤ 1048576) (hm : m ≤ 800000) (hv : SlR w0 sv (byv l)) (h : Src w0 b sv m W) :
    Calls Tryz.prog 42 #[.pointer (some ⟨b, 0, none⟩)] W fun e w' => (∃ x : Nat, x < 4294967296 ∧ e = .returned (.float .f32 x)) ∧ Src w0 b sv (m + 10) w' ∧ W.grownBy w' (some b) := by
  have HP : Hid (∀ (W' : World) (m' : Nat) (n : Int), Src w0 b sv m' W' → m' ≤ m + 20 → 2 ≤ n → n ≤ 100000 → Calls Tryz.prog 28 #[.pointer (some ⟨b, 0, none⟩), .int .i64 n] W' fun e w' => (∃ x : Nat, (x : Int) < n ∧ e = .returned (.int .i64 (x : Int))) ∧ Src w0 b sv (m' + 2) w' ∧ W'.grownBy w' (some b)) := Lib.hid fun W' m' n h' hm' h1 h2 => pickN_any w0 W' b m' n sv l hl (by omega) h1 h2 hv h'
  have HO : Hid (∀ (W' : World) (m' : Nat) (n : Int), Src w0 b sv m' W' → m' ≤ m + 20 → 2 ≤ n → n ≤ 100000 → Calls Tryz.prog 40 #[.pointer (some ⟨b, 0, none⟩), .int .i64 n] W' fun e w' => (∃ t : Bool, e = .returned (.bool t)) ∧ Src w0 b sv (m' + 2) w' ∧ W'.grownBy w' (some b)) := Lib.hid fun W' m' n h' hm' h1 h2 => one_any w0 W' b m' n sv l hl (by omega) h1 h2 hv h'
  have HD : Hid (∀ (W' : World) (m' : Nat), Src w0 b sv m' W' → m' ≤ m + 20 → Calls Tryz.prog 61 #[.pointer (some ⟨b, 0, none⟩)] W' fun e w' => (∃ x : Nat, Pl x ∧ e = .returned (.float .f32 x)) ∧ Src w0 b sv (m' + 4) w' ∧ W'.grownBy w' (some b)) := Lib.hid fun W' m' h' hm' => drawPlain_any w0 W' b m' sv l hl (by omega) hv h'
  have HF : Hid (∀ (W' : World) (n : Nat), n < 4294967296 → Calls Tryz.prog 41 #[.int .i64 (n : Int)] W' fun e w' => e = .returned (.float .f32 n) ∧ W' = w') := Lib.hid fun W' n hn => l01From_any n W' hn
  have HG : Hid (∀ (W' : World) (z : Int), 0 ≤ z → z < 4294967296 → Calls Tryz.prog 41 #[.int .i64 z] W' fun e w' => (∃ n : Nat, n < 4294967296 ∧ e = .returned (.float .f32 n)) ∧ W' = w') := Lib.hid fun W' z h0 hz => by
    obtain ⟨k, rfl⟩ : ∃ k : Nat, z = (k : Int) := ⟨z.toNat, by omega⟩
    refine (l01From_any k W' (by omega)).mono ?_
    rintro e w' ⟨rfl, rfl⟩
    exact ⟨⟨k, by omega, rfl⟩, rfl⟩
  have HA1 : Hid (∀ (W' : World) (m' c : Nat), Src w0 b sv m' W' → m' ≤ m + 20 → Calls Tryz.prog 62 #[.pointer (some ⟨b, 0, none⟩), .slice (some ⟨W'.heap.size, 0, none⟩) 10 c] (W'.alloc (.cells #[.int .i64 0, .int .i64 2147483648, .int .i64 2139095040, .int .i64 4286578688, .int .i64 2143289344, .int .i64 1, .int .i64 2139095039, .int .i64 8388608, .int .i64 8388607, .int .i64 2147483649] 2)) fun e w' => (∃ x : Nat, x < 4294967296 ∧ e = .returned (.int .i64 (x : Int))) ∧ Src w0 b sv (m' + 2) w' ∧ W'.grownBy w' (some b)) := Lib.hid fun W' m' c h' hm' => by
    refine (among_any w0 _ b m' W'.heap.size c 10 sv l [0, 2147483648, 2139095040, 4286578688, 2143289344, 1, 2139095039, 8388608, 8388607, 2147483649] hl (by omega) (by omega) (by omega) hv (h'.alloc _) (by have := h'.2.1; omega) (fun k hk => ?_)).mono ?_
    · have : k = 0 ∨ k = 1 ∨ k = 2 ∨ k = 3 ∨ k = 4 ∨ k = 5 ∨ k = 6 ∨ k = 7 ∨ k = 8 ∨ k = 9 := by omega
      rcases this with rfl | rfl | rfl | rfl | rfl | rfl | rfl | rfl | rfl | rfl <;> simp
    · rintro e w' ⟨⟨x, hx, rfl⟩, h2, h3⟩
      refine ⟨⟨_, ?_, rfl⟩, h2, grownBy_trans (World.grownBy_alloc W' _ _) h3⟩
      exact (by decide : ∀ x, x < 10 → [0, 2147483648, 2139095040, 4286578688, 2143289344, 1, 2139095039, 8388608, 8388607, 2147483649][x]?.getD 0 < 4294967296) x hx
  have HA2 : Hid (∀ (W' : World) (m' c : Nat), Src w0 b sv m' W' → m' ≤ m + 20 → Calls Tryz.prog 62 #[.pointer (some ⟨b, 0, none⟩), .slice (some ⟨W'.heap.size, 0, none⟩) 4 c] (W'.alloc (.cells #[.int .i64 8388608, .int .i64 2130706432, .int .i64 1610612736, .int .i64 536870912] 2)) fun e w' => (∃ x : Nat, (x < 4294967296 ∧ ∀ y, Pl y → (floatBits .mul .f32 y x).isSome = true ∧ fA .mul .f32 y x < 4294967296) ∧ e = .returned (.int .i64 (x : Int))) ∧ Src w0 b sv (m' + 2) w' ∧ W'.grownBy w' (some b)) := Lib.hid fun W' m' c h' hm' => by
    refine (among_any w0 _ b m' W'.heap.size c 4 sv l [8388608, 2130706432, 1610612736, 536870912] hl (by omega) (by omega) (by omega) hv (h'.alloc _) (by have := h'.2.1; omega) (fun k hk => ?_)).mono ?_
    · have : k = 0 ∨ k = 1 ∨ k = 2 ∨ k = 3 := by omega
      rcases this with rfl | rfl | rfl | rfl <;> simp
    · rintro e w' ⟨⟨x, hx, rfl⟩, h2, h3⟩
      refine ⟨⟨_, ⟨?_, fun y hy => hy.mul ?_⟩, rfl⟩, h2, grownBy_trans (World.grownBy_alloc W' _ _) h3⟩
      · exact (by decide : ∀ x, x < 4 → [8388608, 2130706432, 1610612736, 536870912][x]?.getD 0 < 4294967296) x hx
      · exact (by decide : ∀ x, x < 4 → [8388608, 2130706432, 1610612736, 536870912][x]?.getD 0 ∈ [8388608, 2130706432, 1610612736, 536870912]) x hx
  have hg := World.grownBy.refl W (some b)
  have hs := h
  clear hv h
  go_enter Tryz.func42, Tryz.ntmps42
  go_wp2_with (first
    | (go_at_call 40; refine (HO.out _ _ _ hs (by omega) (by omega) (by omega)).mono ?_; rintro e w2 ⟨⟨t, rfl⟩, hs, hg1⟩; have hg := grownBy_trans hg hg1; cases t)
    | (go_at_call 61; refine (HD.out _ _ hs (by omega)).mono ?_; rintro e w3 ⟨⟨p, hp, rfl⟩, hs, hg1⟩; have hg := grownBy_trans hg hg1)
    | (go_at_call 28; refine (HP.out _ _ _ hs (by omega) (by omega) (by omega)).mono ?_; rintro e w4 ⟨⟨x, hx, rfl⟩, hs, hg1⟩; have hg := grownBy_trans hg hg1)
    | (go_at_call 62; with_reducible refine (HA1.out _ _ _ hs (by omega)).mono ?_; rintro e w5 ⟨⟨y, hy, rfl⟩, hs, hg1⟩; have hg := grownBy_trans hg hg1)
    | (go_at_call 62; with_reducible refine (HA2.out _ _ _ hs (by omega)).mono ?_; rintro e w6 ⟨⟨y, ⟨hy, hml⟩, rfl⟩, hs, hg1⟩; have hg := grownBy_trans hg hg1; obtain ⟨hm1, hm2⟩ := hml _ hp)
    | (go_at_call 41; refine (HF.out _ _ (by omega)).mono ?_; rintro e w7 ⟨rfl, rfl⟩)
    | (go_at_call 41; refine (HG.out _ _ (by omega) (by omega)).mono ?_; rintro e w8 ⟨⟨y, hy, rfl⟩, rfl⟩))
  all_goals go_ret
  · exact ⟨⟨_, hp.lt, rfl⟩, hs.mono (by omega), hg⟩
  · exact ⟨⟨_, hy, rfl⟩, hs.mono (by omega), hg⟩
  · exact ⟨⟨_, hy, rfl⟩, hs.mono (by omega), hg⟩
  · exact ⟨⟨_, hy, rfl⟩, hs.mono (by omega), hg⟩
  · exact ⟨⟨_, hm2, rfl⟩, hs.mono (by omega), hg⟩

set_option maxHeartbeats 2000000 in
theorem drawComplex_any (w0 W : World) (b m : Nat) (sv : Value) (l : List UInt8) (hl : l.length ≤ 1048576) (hm : m ≤ 700000) (hv : SlR w0 sv (byv l)) (h : Src w0 b sv m W) :
    Calls Tryz.prog 46 #[.pointer (some ⟨b, 0, none⟩)] W fun e w' => (∃ x y : Nat, x < 4294967296 ∧ y < 4294967296 ∧ e = .returned (.complex .f32 x y)) ∧ Src w0 b sv (m + 20) w' ∧ W.grownBy w' (some b) := by
  have HP : Hid (∀ W' m', m' ≤ m + 10 → Src w0 b sv m' W' → Calls Tryz.prog 42 #[.pointer (some ⟨b, 0, none⟩)] W' fun e w' => (∃ x : Nat, x < 4294967296 ∧ e = .returned (.float .f32 x)) ∧ Src w0 b sv (m' + 10) w' ∧ W'.grownBy w' (some b)) := Lib.hid fun W' m' hm' h' => drawFloat_any w0 W' b m' sv l hl (by omega) hv h'
  clear hv
  go_enter Tryz.func46, Tryz.ntmps46
  go_wp2_with (first
    | (go_at_call 42; refine (HP.out _ _ (by omega) hs).mono ?_; rintro e w2 ⟨⟨y, hy, rfl⟩, hs2, hg2⟩)
    | (go_at_call 42; refine (HP.out _ _ (by omega) h).mono ?_; rintro e w1 ⟨⟨x, hx, rfl⟩, hs, hg⟩))
  go_ret
  exact ⟨⟨_, _, hx, hy, rfl⟩, hs2, grownBy_trans hg hg2⟩

set_option maxHeartbeats 2000000 in
theorem B10Number_any (w : World) (sv : Value) (l : List UInt8) (hl : l.length ≤ 1048576) (hv : SlR w sv (byv l)) :
    Calls Tryz.prog 18 #[sv] w fun e w' => (∃ x : Nat, x < 4294967296 ∧ e = .returned (.float .f32 x)) ∧ Below w.heap.size w w' := by
  have HF := Lib.hid (from_any w sv l hv)
  have HP : Hid (∀ (W' : World) (m' : Nat) (n : Int), Src w w.heap.size sv m' W' → m' ≤ 20 → 2 ≤ n → n ≤ 100000 → Calls Tryz.prog 28 #[.pointer (some ⟨w.heap.size, 0, none⟩), .int .i64 n] W' fun e w' => (∃ x : Nat, (x : Int) < n ∧ e = .returned (.int .i64 (x : Int))) ∧ Src w w.heap.size sv (m' + 2) w' ∧ W'.grownBy w' (some w.heap.size)) := Lib.hid fun W' m' n h' hm' h1 h2 => pickN_any w W' w.heap.size m' n sv l hl (by omega) h1 h2 hv h'
  have HO : Hid (∀ (W' : World) (m' : Nat) (n : Int), Src w w.heap.size sv m' W' → m' ≤ 20 → 2 ≤ n → n ≤ 100000 → Calls Tryz.prog 40 #[.pointer (some ⟨w.heap.size, 0, none⟩), .int .i64 n] W' fun e w' => (∃ t : Bool, e = .returned (.bool t)) ∧ Src w w.heap.size sv (m' + 2) w' ∧ W'.grownBy w' (some w.heap.size)) := Lib.hid fun W' m' n h' hm' h1 h2 => one_any w W' w.heap.size m' n sv l hl (by omega) h1 h2 hv h'
  have HD : Hid (∀ (W' : World) (m' : Nat), Src w w.heap.size sv m' W' → m' ≤ 20 → Calls Tryz.prog 42 #[.pointer (some ⟨w.heap.size, 0, none⟩)] W' fun e w' => (∃ x : Nat, x < 4294967296 ∧ e = .returned (.float .f32 x)) ∧ Src w w.heap.size sv (m' + 10) w' ∧ W'.grownBy w' (some w.heap.size)) := Lib.hid fun W' m' h' hm' => drawFloat_any w W' w.heap.size m' sv l hl (by omega) hv h'
  have HG : Hid (∀ (W' : World) (z : Int), 0 ≤ z → z < 4294967296 → Calls Tryz.prog 41 #[.int .i64 z] W' fun e w' => (∃ n : Nat, n < 4294967296 ∧ e = .returned (.float .f32 n)) ∧ W' = w') := Lib.hid fun W' z h0 hz => by
    obtain ⟨k, rfl⟩ : ∃ k : Nat, z = (k : Int) := ⟨z.toNat, by omega⟩
    refine (l01From_any k W' (by omega)).mono ?_
    rintro e w' ⟨rfl, rfl⟩
    exact ⟨⟨k, by omega, rfl⟩, rfl⟩
  obtain ⟨a, k0, c0, rfl, -, -, -, -⟩ := SlR.opened (0 : UInt8) hv
  clear hv
  go_enter Tryz.func18, Tryz.ntmps18
  go_wp2_with (first
    | (go_at_call 27; refine HF.out.mono ?_; rintro e w1 ⟨rfl, hs, -⟩)
    | (go_at_call 40; refine (HO.out _ _ _ hs (by omega) (by omega) (by omega)).mono ?_; rintro e w2 ⟨⟨t, rfl⟩, hs, hg1⟩; cases t)
    | (go_at_call 28; refine (HP.out _ _ _ hs (by omega) (by omega) (by omega)).mono ?_; rintro e w4 ⟨⟨x, hx, rfl⟩, hs, hg1⟩)
    | (go_at_call 42; refine (HD.out _ _ hs (by omega)).mono ?_; rintro e w3 ⟨⟨y, hy, rfl⟩, hs, hg1⟩)
    | (go_at_call 41; refine (HG.out _ _ (by omega) (by omega)).mono ?_; rintro e w8 ⟨⟨y, hy, rfl⟩, rfl⟩))
  all_goals go_ret
  · exact ⟨⟨_, hy, rfl⟩, hs.2.2.1⟩
  · exact ⟨⟨_, hy, rfl⟩, hs.2.2.1⟩

set_option maxHeartbeats 2000000 in
theorem B10Complex_any (w : World) (sv : Value) (l : List UInt8) (hl : l.length ≤ 1048576) (hv : SlR w sv (byv l)) :
    Calls Tryz.prog 21 #[sv] w fun e w' => (∃ x y : Nat, x < 4294967296 ∧ y < 4294967296 ∧ e = .returned (.complex .f32 x y)) ∧ Below w.heap.size w w' := by
  have HF := Lib.hid (from_any w sv l hv)
  have HO : Hid (∀ (W' : World) (m' : Nat) (n : Int), Src w w.heap.size sv m' W' → m' ≤ 20 → 2 ≤ n → n ≤ 100000 → Calls Tryz.prog 40 #[.pointer (some ⟨w.heap.size, 0, none⟩), .int .i64 n] W' fun e w' => (∃ t : Bool, e = .returned (.bool t)) ∧ Src w w.heap.size sv (m' + 2) w' ∧ W'.grownBy w' (some w.heap.size)) := Lib.hid fun W' m' n h' hm' h1 h2 => one_any w W' w.heap.size m' n sv l hl (by omega) h1 h2 hv h'
  have HD : Hid (∀ (W' : World) (m' : Nat), Src w w.heap.size sv m' W' → m' ≤ 20 → Calls Tryz.prog 46 #[.pointer (some ⟨w.heap.size, 0, none⟩)] W' fun e w' => (∃ x y : Nat, x < 4294967296 ∧ y < 4294967296 ∧ e = .returned (.complex .f32 x y)) ∧ Src w w.heap.size sv (m' + 20) w' ∧ W'.grownBy w' (some w.heap.size)) := Lib.hid fun W' m' h' hm' => drawComplex_any w W' w.heap.size m' sv l hl (by omega) hv h'
  have HE : Hid (∀ (W' : World) (m' : Nat), Src w w.heap.size sv m' W' → m' ≤ 20 → Calls Tryz.prog 47 #[.pointer (some ⟨w.heap.size, 0, none⟩)] W' fun e w' => (∃ x y : Nat, x < 4294967296 ∧ y < 4294967296 ∧ e = .returned (.complex .f32 x y)) ∧ Src w w.heap.size sv (m' + 4) w' ∧ W'.grownBy w' (some w.heap.size)) := Lib.hid fun W' m' h' hm' => drawFine_any w W' w.heap.size m' sv l hl (by omega) hv h'
  obtain ⟨a, k0, c0, rfl, -, -, -, -⟩ := SlR.opened (0 : UInt8) hv
  clear hv
  go_enter Tryz.func21, Tryz.ntmps21
  go_wp2_with (first
    | (go_at_call 27; refine HF.out.mono ?_; rintro e w1 ⟨rfl, hs, -⟩)
    | (go_at_call 40; refine (HO.out _ _ _ hs (by omega) (by omega) (by omega)).mono ?_; rintro e w2 ⟨⟨t, rfl⟩, hs, hg1⟩; cases t)
    | (go_at_call 46; refine (HD.out _ _ hs (by omega)).mono ?_; rintro e w3 ⟨⟨x, y, hx, hy, rfl⟩, hs, hg1⟩)
    | (go_at_call 47; refine (HE.out _ _ hs (by omega)).mono ?_; rintro e w3 ⟨⟨x, y, hx, hy, rfl⟩, hs, hg1⟩))
  all_goals go_ret
  · exact ⟨⟨_, _, hx, hy, rfl⟩, hs.2.2.1⟩
  · exact ⟨⟨_, _, hx, hy, rfl⟩, hs.2.2.1⟩

end Go.Proofs.YtimhljcebeiofaaGreatDoor
