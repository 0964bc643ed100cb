/- The library's stable sort, at any length up to 4096: what it makes of the numbers from 0 on. -/
import Derived.Test.YtjobgobeiiakgaaDoorMSym4
import Derived.Test.YtjobgobeiiakgaaDoorMTldB
namespace Go.Proofs.YtjobgobeiiakgaaDoor
set_option linter.unusedSimpArgs false
set_option linter.unusedVariables false
open Go.RowKit
theorem symAllTurns {g : Nat} (cp : Value) (B N n : Nat) (w0 : World) (cf : Nat → Nat → Int) (lt : Nat → Nat → Bool) (hsw : SW lt) (hcf : ∀ x y, x < N → y < N → decide (cf x y < 0) = lt x y) (hcl : ClG Tryd.prog 52 cp (some g) N w0 cf) (c : Nat) (hn : n ≤ 4096) (k : Nat) : SymKTurns k n N B g c cp w0 lt := by
  induction k with
  | zero => intro P A C S l w a m b hk hA1 hC1; omega
  | succ k ih => exact symSTurns_any cp B N n w0 cf lt hsw hcf hcl c k hn ih

set_option maxHeartbeats 2000000 in
theorem ins0Turns_any {g : Nat} (cp : Value) (B n a : Nat) (w : World) (c : Nat) (l : List Nat) (hn : n ≤ 4096) (han : a ≤ n) (hown : w.ownsRow B 2 1 (.slice (some ⟨g, 0, none⟩) n c) n (nats l)) :
    Calls Tryd.prog 86 #[.slice (some ⟨g, 0, none⟩) n c, .int .i64 (a : Int), .int .i64 (a : Int), .func (.func 52) #[] #[cp]] w fun e w' => e = .returned (.tuple #[]) ∧ w = w' := by
  have e1 : IntKind.i64.wrap ((a : Int) + 1) = ((a + 1 : Nat) : Int) := by rw [Int.natCast_add]; exact IntWalk.i64_in _ (by omega)
  have e2 : decide (a + 1 < a) = false := decide_eq_false (by omega)
  generalize a + 1 = b at *
  clear hown
  go_enter Tryd.func86, Tryd.ntmps86
  go_wp2
  refine wp_loop_rounds 1 ?_
  rw [rounds_succ]
  go_wp2
  go_end0
  exact ⟨rfl, rfl⟩

set_option maxRecDepth 4000 in
set_option maxHeartbeats 2000000 in
theorem stableTurns_any {g : Nat} (cp : Value) (B n : Nat) (w0 w : World) (cf : Nat → Nat → Int) (lt : Nat → Nat → Bool) (hsw : SW lt) (hcf : ∀ x y, x < n → y < n → decide (cf x y < 0) = lt x y) (hcl : ClG Tryd.prog 52 cp (some g) n w0 cf) (c : Nat)
    (h1 : 1 ≤ n) (hn : n ≤ 2000) (hown : w.ownsRow B 2 1 (.slice (some ⟨g, 0, none⟩) n c) n (nats (List.range n))) (hbl : w0.grownBy w (some g)) :
    Calls Tryd.prog 70 #[.slice (some ⟨g, 0, none⟩) n c, .int .i64 (n : Int), .func (.func 52) #[] #[cp]] w fun e w' => e = .returned (.tuple #[]) ∧ w'.ownsRow B 2 1 (.slice (some ⟨g, 0, none⟩) n c) n (nats (ordX lt id n)) ∧ w0.grownBy w' (some g) ∧ w.grownBy w' (some g) := by
  obtain ⟨g', hg', hBg, hgl⟩ := own_some hown (by omega)
  obtain rfl : g = g' := by simpa using hg'
  clear hg'
  have HSW := Lib.hid hsw
  have HIN : Hid (∀ (a b : Nat) (l : List Nat) (W : World), l.Perm (List.range n) → a ≤ b → b ≤ n → W.ownsRow B 2 1 (.slice (some ⟨g, 0, none⟩) n c) n (nats l) → w0.grownBy W (some g) →
      Calls Tryd.prog 86 #[.slice (some ⟨g, 0, none⟩) n c, .int .i64 (a : Int), .int .i64 (b : Int), .func (.func 52) #[] #[cp]] W fun e w' => e = .returned (.tuple #[]) ∧ w'.ownsRow B 2 1 (.slice (some ⟨g, 0, none⟩) n c) n (nats (insR lt a l (b - a - 1))) ∧ w0.grownBy w' (some g) ∧ W.grownBy w' (some g)) := Lib.hid fun a b l W hp hab hbn hW hWb => by
    by_cases he : a = b
    · subst he
      refine (ins0Turns_any cp B n a W c l (by omega) (by omega) hW).mono ?_
      rintro e w' ⟨rfl, rfl⟩
      rw [show a - a - 1 = 0 by omega]
      exact ⟨rfl, hW, hWb, World.grownBy.refl _ _⟩
    · have := insTurns_any cp B n n a (b - a) w0 W cf lt hcf hcl c l (perm_len hp) (perm_lt hp) (by omega) (by omega) (by omega) hW hWb
      rw [show a + (b - a) = b by omega] at this
      exact this
  have HSY : Hid (∀ (a m b : Nat) (l : List Nat) (W : World), l.Perm (List.range n) → a < m → m < b → b ≤ n → (seg l a m).Pairwise (RR lt) → (seg l m b).Pairwise (RR lt) → W.ownsRow B 2 1 (.slice (some ⟨g, 0, none⟩) n c) n (nats l) → w0.grownBy W (some g) →
      Calls Tryd.prog 87 #[.slice (some ⟨g, 0, none⟩) n c, .int .i64 (a : Int), .int .i64 (m : Int), .int .i64 (b : Int), .func (.func 52) #[] #[cp]] W fun e w' => e = .returned (.tuple #[]) ∧ w'.ownsRow B 2 1 (.slice (some ⟨g, 0, none⟩) n c) n (nats (l.take a ++ (mrg lt (seg l a m) (seg l m b) ++ l.drop b))) ∧ w0.grownBy w' (some g) ∧ W.grownBy w' (some g)) := Lib.hid fun a m b l W hp ham hmb hbn hA hC hW hWb => by
    have hl := perm_len hp
    have s1 := seg_length l a m (by omega)
    have s2 := seg_length l m b (by omega)
    exact symAllTurns cp B n n w0 cf lt hsw hcf hcl c (by omega) (b - a) (l.take a) (seg l a m) (seg l m b) (l.drop b) l W a m b (by omega) (by omega) (by omega) (seg_two l a m b (by omega) (by omega)) hl (perm_lt hp) (by simp; omega) (by omega) (by omega) (RR.ns hA) (RR.ns hC) hW hWb
  clear hsw hcf hcl
  go_enter Tryd.func70, Tryd.ntmps70
  go_wp2
  go_loopw [7, 8] (fun q r wr => ∃ (a : Nat) (l : List Nat), q = .int .i64 (a : Int) ∧ r = .int .i64 ((a + 20 : Nat) : Int) ∧ a ≤ n ∧ Fst lt n 20 a l ∧ wr.ownsRow B 2 1 (.slice (some ⟨g, 0, none⟩) n c) n (nats l) ∧ w0.grownBy wr (some g) ∧ w.grownBy wr (some g)) (fun q _ _ => n - (intOf q).toNat)
  case atStart => exact ⟨0, _, rfl, rfl, Nat.zero_le _, Fst.start _ _ _, hown, hbl, World.grownBy.refl _ _⟩
  case round =>
    clear hown hbl
    obtain ⟨a, l, rfl, rfl, han, hfst, hown, hbl, hg⟩ := hrel
    have HF := Lib.hid hfst
    clear hfst
    obtain ⟨b, hb⟩ : ∃ b, b = a + 20 := ⟨_, rfl⟩
    rw [← hb]
    by_cases hbn : b ≤ n
    · have h5 : decide ((b : Int) ≤ (n : Int)) = true := decide_eq_true (by omega)
      have h6 : IntKind.i64.wrap ((b : Int) + 20) = ((b + 20 : Nat) : Int) := by rw [Int.natCast_add]; exact IntWalk.i64_in _ (by omega)
      have HB := Lib.hid hb
      have hab : a ≤ b := by omega
      clear hb
      go_wp2_with (go_at_call 86; refine (HIN.out a b l _ HF.out.1 hab hbn hown hbl).mono ?_; rintro e w1 ⟨rfl, ho1, hb1, hg1⟩)
      go_roundw
      case rel => exact ⟨b, _, rfl, rfl, hbn, by have := HF.out.step HSW.out (b := b) (by omega) (by have := HB.out; omega) (by have := HB.out; omega); rw [← HB.out] at this; exact this, ho1, hb1, grownBy_trans hg hg1⟩
      case measure => simp [intOf]; have := HB.out; omega
    · have h5 : decide ((b : Int) ≤ (n : Int)) = false := decide_eq_false (by omega)
      obtain ⟨L0, hL0⟩ : ∃ L0, L0 = insR lt a l (n - a - 1) := ⟨_, rfl⟩
      have HP : Hid (Pss lt n 20 0 L0) := Lib.hid (by
        by_cases he : a = n
        · have : L0 = l := by rw [hL0, he, show n - n - 1 = 0 by omega]; rfl
          rw [this]
          exact HF.out.fin (by omega)
        · rw [hL0]
          exact (HF.out.step HSW.out (b := n) (by omega) (by omega) (by omega)).fin (by omega))
      have HI := Lib.hid (HIN.out a n l wr HF.out.1 han (Nat.le_refl _) hown hbl)
      rw [← hL0] at HI
      clear hL0 HF hown hbl hb
      go_wp2_with (go_at_call 86; refine HI.out.mono ?_; rintro e w1 ⟨rfl, hown, hbl, hg1⟩)
      have hgw := grownBy_trans hg hg1
      clear hg hg1 HI
      clear h5 hbn han
      go_loopw [6] (fun q wr => ∃ (s : Nat) (l : List Nat), q = .int .i64 (s : Int) ∧ 20 ≤ s ∧ s ≤ 4000 ∧ Pss lt n s 0 l ∧ wr.ownsRow B 2 1 (.slice (some ⟨g, 0, none⟩) n c) n (nats l) ∧ w0.grownBy wr (some g) ∧ w.grownBy wr (some g)) (fun q _ => n - (intOf q).toNat)
      case atStart => exact ⟨20, L0, rfl, by omega, by omega, HP.out, hown, hbl, hgw⟩
      case round =>
        clear hown hbl hgw HP
        obtain ⟨s, l, rfl, hs1, hs2, hpss, hown, hbl, hg⟩ := hrel
        have HF := Lib.hid hpss
        clear hpss
        by_cases hsn : s < n
        · have h5 : decide ((s : Int) < (n : Int)) = true := decide_eq_true (by omega)
          have h6 : IntKind.i64.wrap (2 * (s : Int)) = ((2 * s : Nat) : Int) := by rw [Int.natCast_mul]; exact IntWalk.i64_in _ (by omega)
          have h7 : IntKind.i64.wrap ((s : Int) * 2) = ((2 * s : Nat) : Int) := by rw [Int.natCast_mul, Int.mul_comm]; exact IntWalk.i64_in _ (by omega)
          obtain ⟨s2, hs3⟩ : ∃ s2, s2 = 2 * s := ⟨_, rfl⟩
          rw [← hs3] at h6 h7
          have HS2 := Lib.hid hs3
          have hs4 : s < s2 := by omega
          have hs5 : s2 ≤ 4000 := by omega
          clear hs3
          go_wp2
          go_loopw [7, 8] (fun q r wr => ∃ (a : Nat) (l : List Nat), q = .int .i64 (a : Int) ∧ r = .int .i64 ((a + s2 : Nat) : Int) ∧ a ≤ n ∧ Pss lt n s a l ∧ wr.ownsRow B 2 1 (.slice (some ⟨g, 0, none⟩) n c) n (nats l) ∧ w0.grownBy wr (some g) ∧ w.grownBy wr (some g)) (fun q _ _ => n - (intOf q).toNat)
          case atStart => exact ⟨0, l, rfl, by rw [Nat.zero_add], Nat.zero_le _, HF.out, hown, hbl, hg⟩
          case round =>
            clear hown hbl hg HF
            obtain ⟨a, l, rfl, rfl, han, hpss, hown, hbl, hg⟩ := hrel
            have HF := Lib.hid hpss
            clear hpss
            have h8 : IntKind.i64.wrap ((a : Int) + (s : Int)) = ((a + s : Nat) : Int) := by rw [Int.natCast_add]; exact IntWalk.i64_in _ (by omega)
            obtain ⟨b, hb⟩ : ∃ b, b = a + s2 := ⟨_, rfl⟩
            obtain ⟨m, hm⟩ : ∃ m, m = a + s := ⟨_, rfl⟩
            rw [← hb]
            rw [← hm] at h8
            have HB := Lib.hid hb
            have HM := Lib.hid hm
            by_cases hbn : b ≤ n
            · have h9 : decide ((b : Int) ≤ (n : Int)) = true := decide_eq_true (by omega)
              have h10 : IntKind.i64.wrap ((b : Int) + (s2 : Int)) = ((b + s2 : Nat) : Int) := by rw [Int.natCast_add]; exact IntWalk.i64_in _ (by omega)
              have hab : a < b := by omega
              have HC : Hid (Calls Tryd.prog 87 #[.slice (some ⟨g, 0, none⟩) n c, .int .i64 (a : Int), .int .i64 (m : Int), .int .i64 (b : Int), .func (.func 52) #[] #[cp]] wr fun e w' => e = .returned (.tuple #[]) ∧ w'.ownsRow B 2 1 (.slice (some ⟨g, 0, none⟩) n c) n (nats (l.take a ++ (mrg lt (seg l a m) (seg l m b) ++ l.drop b))) ∧ w0.grownBy w' (some g) ∧ wr.grownBy w' (some g)) := Lib.hid (by
                obtain ⟨h1, h2, h3, h4⟩ := HF.out
                have hsa := Nat.dvd_trans (⟨2, by omega⟩ : s ∣ 2 * s) h2
                have t1 := h4 a (by omega) hsa (Nat.le_refl _)
                have t2 := h4 m (by omega) (by rw [HM.out]; exact Nat.dvd_add hsa (Nat.dvd_refl _)) (by omega)
                have := HS2.out
                rw [show min (a + s) n = m by omega] at t1
                rw [show min (m + s) n = b by omega] at t2
                exact HSY.out a m b l wr h1 (by omega) (by omega) (by omega) t1.1 t2.1 hown hbl)
              have HST : Hid (Pss lt n s b (l.take a ++ (mrg lt (seg l a m) (seg l m b) ++ l.drop b))) := Lib.hid (by
                have := HS2.out
                have := HF.out.step HSW.out (b := b) (by omega) (by omega) (by omega)
                rw [← HM.out, ← HS2.out, ← HB.out] at this
                exact this)
              generalize l.take a ++ (mrg lt (seg l a m) (seg l m b) ++ l.drop b) = l2 at *
              clear hb hm hown hbl
              go_wp2_with (go_at_call 87; refine HC.out.mono ?_; rintro e w1 ⟨rfl, hown, hbl, hg1⟩)
              go_roundw
              case rel => exact ⟨b, l2, rfl, rfl, hbn, HST.out, hown, hbl, grownBy_trans hg hg1⟩
              case measure => simp [intOf]; omega
            · have h9 : decide ((b : Int) ≤ (n : Int)) = false := decide_eq_false (by omega)
              by_cases hmn : m < n
              · have h10 : decide ((m : Int) < (n : Int)) = true := decide_eq_true (by omega)
                have HC : Hid (Calls Tryd.prog 87 #[.slice (some ⟨g, 0, none⟩) n c, .int .i64 (a : Int), .int .i64 (m : Int), .int .i64 (n : Int), .func (.func 52) #[] #[cp]] wr fun e w' => e = .returned (.tuple #[]) ∧ w'.ownsRow B 2 1 (.slice (some ⟨g, 0, none⟩) n c) n (nats (l.take a ++ (mrg lt (seg l a m) (seg l m n) ++ l.drop n))) ∧ w0.grownBy w' (some g) ∧ wr.grownBy w' (some g)) := Lib.hid (by
                  obtain ⟨h1, h2, h3, h4⟩ := HF.out
                  have hsa := Nat.dvd_trans (⟨2, by omega⟩ : s ∣ 2 * s) h2
                  have t1 := h4 a (by omega) hsa (Nat.le_refl _)
                  have t2 := h4 m (by omega) (by rw [HM.out]; exact Nat.dvd_add hsa (Nat.dvd_refl _)) (by omega)
                  have := HS2.out
                  rw [show min (a + s) n = m by omega] at t1
                  rw [show min (m + s) n = n by omega] at t2
                  exact HSY.out a m n l wr h1 (by omega) (by omega) (Nat.le_refl _) t1.1 t2.1 hown hbl)
                have HST : Hid (Pss lt n s2 0 (l.take a ++ (mrg lt (seg l a m) (seg l m n) ++ l.drop n))) := Lib.hid (by
                  have := HS2.out
                  have h := HF.out.step HSW.out (b := n) (by omega) (by omega) (by omega)
                  have h2 := h.fin (by omega) (by omega)
                  rw [← HM.out, ← HS2.out] at h2
                  exact h2)
                generalize l.take a ++ (mrg lt (seg l a m) (seg l m n) ++ l.drop n) = l2 at *
                clear hb hm hown hbl
                go_wp2_with (go_at_call 87; refine HC.out.mono ?_; rintro e w1 ⟨rfl, hown, hbl, hg1⟩)
                go_roundw
                case rel => exact ⟨s2, l2, by go_num, by omega, hs5, HST.out, hown, hbl, grownBy_trans hg hg1⟩
                case measure => simp [intOf]; omega
              · have h10 : decide ((m : Int) < (n : Int)) = false := decide_eq_false (by omega)
                have HST : Hid (Pss lt n s2 0 l) := Lib.hid (by
                  have := HS2.out
                  have h2 := HF.out.fin (by omega) (by omega)
                  rw [← HS2.out] at h2
                  exact h2)
                clear hb hm
                go_wp2
                go_roundw
                case rel => exact ⟨s2, l, by go_num, by omega, hs5, HST.out, hown, hbl, hg⟩
                case measure => simp [intOf]; omega
        · have h5 : decide ((s : Int) < (n : Int)) = false := decide_eq_false (by omega)
          have hfin := HF.out.all HSW.out h1 (by omega)
          subst hfin
          go_wp2
          go_end0
          exact ⟨rfl, hown, hbl, hg⟩

set_option maxHeartbeats 1000000 in
theorem sortTurns_any {g : Nat} (cp : Value) (B n : Nat) (w0 w : World) (cf : Nat → Nat → Int) (lt : Nat → Nat → Bool) (hsw : SW lt) (hcf : ∀ x y, x < n → y < n → decide (cf x y < 0) = lt x y) (hcl : ClG Tryd.prog 52 cp (some g) n w0 cf) (c : Nat)
    (h1 : 1 ≤ n) (hn : n ≤ 2000) (hown : w.ownsRow B 2 1 (.slice (some ⟨g, 0, none⟩) n c) n (nats (List.range n))) (hbl : w0.grownBy w (some g)) :
    Calls Tryd.prog 51 #[.slice (some ⟨g, 0, none⟩) n c, .func (.func 52) #[] #[cp]] w fun e w' => e = .returned (.tuple #[]) ∧ w'.ownsRow B 2 1 (.slice (some ⟨g, 0, none⟩) n c) n (nats (ordX lt id n)) ∧ w0.grownBy w' (some g) ∧ w.grownBy w' (some g) := by
  have HS := Lib.hid (stableTurns_any cp B n w0 w cf lt hsw hcf hcl c h1 hn hown hbl)
  clear hsw hcf hcl hown hbl
  go_enter Tryd.func51, Tryd.ntmps51
  go_wp2_with (go_at_call 70; refine HS.out.mono ?_; rintro e w1 ⟨rfl, ho, hb, hg⟩)
  go_end0
  exact ⟨rfl, ho, hb, hg⟩
theorem symAllBack {g : Nat} (cp : Value) (B N n : Nat) (w0 : World) (cf : Nat → Nat → Int) (lt : Nat → Nat → Bool) (hsw : SW lt) (hcf : ∀ x y, x < N → y < N → decide (cf x y < 0) = lt x y) (hcl : ClG Tryd.prog 54 cp (some g) N w0 cf) (c : Nat) (hn : n ≤ 4096) (k : Nat) : SymKBack k n N B g c cp w0 lt := by
  induction k with
  | zero => intro P A C S l w a m b hk hA1 hC1; omega
  | succ k ih => exact symSBack_any cp B N n w0 cf lt hsw hcf hcl c k hn ih

set_option maxHeartbeats 2000000 in
theorem ins0Back_any {g : Nat} (cp : Value) (B n a : Nat) (w : World) (c : Nat) (l : List Nat) (hn : n ≤ 4096) (han : a ≤ n) (hown : w.ownsRow B 2 1 (.slice (some ⟨g, 0, none⟩) n c) n (nats l)) :
    Calls Tryd.prog 86 #[.slice (some ⟨g, 0, none⟩) n c, .int .i64 (a : Int), .int .i64 (a : Int), .func (.func 54) #[] #[cp]] w fun e w' => e = .returned (.tuple #[]) ∧ w = w' := by
  have e1 : IntKind.i64.wrap ((a : Int) + 1) = ((a + 1 : Nat) : Int) := by rw [Int.natCast_add]; exact IntWalk.i64_in _ (by omega)
  have e2 : decide (a + 1 < a) = false := decide_eq_false (by omega)
  generalize a + 1 = b at *
  clear hown
  go_enter Tryd.func86, Tryd.ntmps86
  go_wp2
  refine wp_loop_rounds 1 ?_
  rw [rounds_succ]
  go_wp2
  go_end0
  exact ⟨rfl, rfl⟩

set_option maxRecDepth 4000 in
set_option maxHeartbeats 2000000 in
theorem stableBack_any {g : Nat} (cp : Value) (B n : Nat) (w0 w : World) (cf : Nat → Nat → Int) (lt : Nat → Nat → Bool) (hsw : SW lt) (hcf : ∀ x y, x < n → y < n → decide (cf x y < 0) = lt x y) (hcl : ClG Tryd.prog 54 cp (some g) n w0 cf) (c : Nat)
    (h1 : 1 ≤ n) (hn : n ≤ 2000) (hown : w.ownsRow B 2 1 (.slice (some ⟨g, 0, none⟩) n c) n (nats (List.range n))) (hbl : w0.grownBy w (some g)) :
    Calls Tryd.prog 70 #[.slice (some ⟨g, 0, none⟩) n c, .int .i64 (n : Int), .func (.func 54) #[] #[cp]] w fun e w' => e = .returned (.tuple #[]) ∧ w'.ownsRow B 2 1 (.slice (some ⟨g, 0, none⟩) n c) n (nats (ordX lt id n)) ∧ w0.grownBy w' (some g) ∧ w.grownBy w' (some g) := by
  obtain ⟨g', hg', hBg, hgl⟩ := own_some hown (by omega)
  obtain rfl : g = g' := by simpa using hg'
  clear hg'
  have HSW := Lib.hid hsw
  have HIN : Hid (∀ (a b : Nat) (l : List Nat) (W : World), l.Perm (List.range n) → a ≤ b → b ≤ n → W.ownsRow B 2 1 (.slice (some ⟨g, 0, none⟩) n c) n (nats l) → w0.grownBy W (some g) →
      Calls Tryd.prog 86 #[.slice (some ⟨g, 0, none⟩) n c, .int .i64 (a : Int), .int .i64 (b : Int), .func (.func 54) #[] #[cp]] W fun e w' => e = .returned (.tuple #[]) ∧ w'.ownsRow B 2 1 (.slice (some ⟨g, 0, none⟩) n c) n (nats (insR lt a l (b - a - 1))) ∧ w0.grownBy w' (some g) ∧ W.grownBy w' (some g)) := Lib.hid fun a b l W hp hab hbn hW hWb => by
    by_cases he : a = b
    · subst he
      refine (ins0Back_any cp B n a W c l (by omega) (by omega) hW).mono ?_
      rintro e w' ⟨rfl, rfl⟩
      rw [show a - a - 1 = 0 by omega]
      exact ⟨rfl, hW, hWb, World.grownBy.refl _ _⟩
    · have := insBack_any cp B n n a (b - a) w0 W cf lt hcf hcl c l (perm_len hp) (perm_lt hp) (by omega) (by omega) (by omega) hW hWb
      rw [show a + (b - a) = b by omega] at this
      exact this
  have HSY : Hid (∀ (a m b : Nat) (l : List Nat) (W : World), l.Perm (List.range n) → a < m → m < b → b ≤ n → (seg l a m).Pairwise (RR lt) → (seg l m b).Pairwise (RR lt) → W.ownsRow B 2 1 (.slice (some ⟨g, 0, none⟩) n c) n (nats l) → w0.grownBy W (some g) →
      Calls Tryd.prog 87 #[.slice (some ⟨g, 0, none⟩) n c, .int .i64 (a : Int), .int .i64 (m : Int), .int .i64 (b : Int), .func (.func 54) #[] #[cp]] W fun e w' => e = .returned (.tuple #[]) ∧ w'.ownsRow B 2 1 (.slice (some ⟨g, 0, none⟩) n c) n (nats (l.take a ++ (mrg lt (seg l a m) (seg l m b) ++ l.drop b))) ∧ w0.grownBy w' (some g) ∧ W.grownBy w' (some g)) := Lib.hid fun a m b l W hp ham hmb hbn hA hC hW hWb => by
    have hl := perm_len hp
    have s1 := seg_length l a m (by omega)
    have s2 := seg_length l m b (by omega)
    exact symAllBack cp B n n w0 cf lt hsw hcf hcl c (by omega) (b - a) (l.take a) (seg l a m) (seg l m b) (l.drop b) l W a m b (by omega) (by omega) (by omega) (seg_two l a m b (by omega) (by omega)) hl (perm_lt hp) (by simp; omega) (by omega) (by omega) (RR.ns hA) (RR.ns hC) hW hWb
  clear hsw hcf hcl
  go_enter Tryd.func70, Tryd.ntmps70
  go_wp2
  go_loopw [7, 8] (fun q r wr => ∃ (a : Nat) (l : List Nat), q = .int .i64 (a : Int) ∧ r = .int .i64 ((a + 20 : Nat) : Int) ∧ a ≤ n ∧ Fst lt n 20 a l ∧ wr.ownsRow B 2 1 (.slice (some ⟨g, 0, none⟩) n c) n (nats l) ∧ w0.grownBy wr (some g) ∧ w.grownBy wr (some g)) (fun q _ _ => n - (intOf q).toNat)
  case atStart => exact ⟨0, _, rfl, rfl, Nat.zero_le _, Fst.start _ _ _, hown, hbl, World.grownBy.refl _ _⟩
  case round =>
    clear hown hbl
    obtain ⟨a, l, rfl, rfl, han, hfst, hown, hbl, hg⟩ := hrel
    have HF := Lib.hid hfst
    clear hfst
    obtain ⟨b, hb⟩ : ∃ b, b = a + 20 := ⟨_, rfl⟩
    rw [← hb]
    by_cases hbn : b ≤ n
    · have h5 : decide ((b : Int) ≤ (n : Int)) = true := decide_eq_true (by omega)
      have h6 : IntKind.i64.wrap ((b : Int) + 20) = ((b + 20 : Nat) : Int) := by rw [Int.natCast_add]; exact IntWalk.i64_in _ (by omega)
      have HB := Lib.hid hb
      have hab : a ≤ b := by omega
      clear hb
      go_wp2_with (go_at_call 86; refine (HIN.out a b l _ HF.out.1 hab hbn hown hbl).mono ?_; rintro e w1 ⟨rfl, ho1, hb1, hg1⟩)
      go_roundw
      case rel => exact ⟨b, _, rfl, rfl, hbn, by have := HF.out.step HSW.out (b := b) (by omega) (by have := HB.out; omega) (by have := HB.out; omega); rw [← HB.out] at this; exact this, ho1, hb1, grownBy_trans hg hg1⟩
      case measure => simp [intOf]; have := HB.out; omega
    · have h5 : decide ((b : Int) ≤ (n : Int)) = false := decide_eq_false (by omega)
      obtain ⟨L0, hL0⟩ : ∃ L0, L0 = insR lt a l (n - a - 1) := ⟨_, rfl⟩
      have HP : Hid (Pss lt n 20 0 L0) := Lib.hid (by
        by_cases he : a = n
        · have : L0 = l := by rw [hL0, he, show n - n - 1 = 0 by omega]; rfl
          rw [this]
          exact HF.out.fin (by omega)
        · rw [hL0]
          exact (HF.out.step HSW.out (b := n) (by omega) (by omega) (by omega)).fin (by omega))
      have HI := Lib.hid (HIN.out a n l wr HF.out.1 han (Nat.le_refl _) hown hbl)
      rw [← hL0] at HI
      clear hL0 HF hown hbl hb
      go_wp2_with (go_at_call 86; refine HI.out.mono ?_; rintro e w1 ⟨rfl, hown, hbl, hg1⟩)
      have hgw := grownBy_trans hg hg1
      clear hg hg1 HI
      clear h5 hbn han
      go_loopw [6] (fun q wr => ∃ (s : Nat) (l : List Nat), q = .int .i64 (s : Int) ∧ 20 ≤ s ∧ s ≤ 4000 ∧ Pss lt n s 0 l ∧ wr.ownsRow B 2 1 (.slice (some ⟨g, 0, none⟩) n c) n (nats l) ∧ w0.grownBy wr (some g) ∧ w.grownBy wr (some g)) (fun q _ => n - (intOf q).toNat)
      case atStart => exact ⟨20, L0, rfl, by omega, by omega, HP.out, hown, hbl, hgw⟩
      case round =>
        clear hown hbl hgw HP
        obtain ⟨s, l, rfl, hs1, hs2, hpss, hown, hbl, hg⟩ := hrel
        have HF := Lib.hid hpss
        clear hpss
        by_cases hsn : s < n
        · have h5 : decide ((s : Int) < (n : Int)) = true := decide_eq_true (by omega)
          have h6 : IntKind.i64.wrap (2 * (s : Int)) = ((2 * s : Nat) : Int) := by rw [Int.natCast_mul]; exact IntWalk.i64_in _ (by omega)
          have h7 : IntKind.i64.wrap ((s : Int) * 2) = ((2 * s : Nat) : Int) := by rw [Int.natCast_mul, Int.mul_comm]; exact IntWalk.i64_in _ (by omega)
          obtain ⟨s2, hs3⟩ : ∃ s2, s2 = 2 * s := ⟨_, rfl⟩
          rw [← hs3] at h6 h7
          have HS2 := Lib.hid hs3
          have hs4 : s < s2 := by omega
          have hs5 : s2 ≤ 4000 := by omega
          clear hs3
          go_wp2
          go_loopw [7, 8] (fun q r wr => ∃ (a : Nat) (l : List Nat), q = .int .i64 (a : Int) ∧ r = .int .i64 ((a + s2 : Nat) : Int) ∧ a ≤ n ∧ Pss lt n s a l ∧ wr.ownsRow B 2 1 (.slice (some ⟨g, 0, none⟩) n c) n (nats l) ∧ w0.grownBy wr (some g) ∧ w.grownBy wr (some g)) (fun q _ _ => n - (intOf q).toNat)
          case atStart => exact ⟨0, l, rfl, by rw [Nat.zero_add], Nat.zero_le _, HF.out, hown, hbl, hg⟩
          case round =>
            clear hown hbl hg HF
            obtain ⟨a, l, rfl, rfl, han, hpss, hown, hbl, hg⟩ := hrel
            have HF := Lib.hid hpss
            clear hpss
            have h8 : IntKind.i64.wrap ((a : Int) + (s : Int)) = ((a + s : Nat) : Int) := by rw [Int.natCast_add]; exact IntWalk.i64_in _ (by omega)
            obtain ⟨b, hb⟩ : ∃ b, b = a + s2 := ⟨_, rfl⟩
            obtain ⟨m, hm⟩ : ∃ m, m = a + s := ⟨_, rfl⟩
            rw [← hb]
            rw [← hm] at h8
            have HB := Lib.hid hb
            have HM := Lib.hid hm
            by_cases hbn : b ≤ n
            · have h9 : decide ((b : Int) ≤ (n : Int)) = true := decide_eq_true (by omega)
              have h10 : IntKind.i64.wrap ((b : Int) + (s2 : Int)) = ((b + s2 : Nat) : Int) := by rw [Int.natCast_add]; exact IntWalk.i64_in _ (by omega)
              have hab : a < b := by omega
              have HC : Hid (Calls Tryd.prog 87 #[.slice (some ⟨g, 0, none⟩) n c, .int .i64 (a : Int), .int .i64 (m : Int), .int .i64 (b : Int), .func (.func 54) #[] #[cp]] wr fun e w' => e = .returned (.tuple #[]) ∧ w'.ownsRow B 2 1 (.slice (some ⟨g, 0, none⟩) n c) n (nats (l.take a ++ (mrg lt (seg l a m) (seg l m b) ++ l.drop b))) ∧ w0.grownBy w' (some g) ∧ wr.grownBy w' (some g)) := Lib.hid (by
                obtain ⟨h1, h2, h3, h4⟩ := HF.out
                have hsa := Nat.dvd_trans (⟨2, by omega⟩ : s ∣ 2 * s) h2
                have t1 := h4 a (by omega) hsa (Nat.le_refl _)
                have t2 := h4 m (by omega) (by rw [HM.out]; exact Nat.dvd_add hsa (Nat.dvd_refl _)) (by omega)
                have := HS2.out
                rw [show min (a + s) n = m by omega] at t1
                rw [show min (m + s) n = b by omega] at t2
                exact HSY.out a m b l wr h1 (by omega) (by omega) (by omega) t1.1 t2.1 hown hbl)
              have HST : Hid (Pss lt n s b (l.take a ++ (mrg lt (seg l a m) (seg l m b) ++ l.drop b))) := Lib.hid (by
                have := HS2.out
                have := HF.out.step HSW.out (b := b) (by omega) (by omega) (by omega)
                rw [← HM.out, ← HS2.out, ← HB.out] at this
                exact this)
              generalize l.take a ++ (mrg lt (seg l a m) (seg l m b) ++ l.drop b) = l2 at *
              clear hb hm hown hbl
              go_wp2_with (go_at_call 87; refine HC.out.mono ?_; rintro e w1 ⟨rfl, hown, hbl, hg1⟩)
              go_roundw
              case rel => exact ⟨b, l2, rfl, rfl, hbn, HST.out, hown, hbl, grownBy_trans hg hg1⟩
              case measure => simp [intOf]; omega
            · have h9 : decide ((b : Int) ≤ (n : Int)) = false := decide_eq_false (by omega)
              by_cases hmn : m < n
              · have h10 : decide ((m : Int) < (n : Int)) = true := decide_eq_true (by omega)
                have HC : Hid (Calls Tryd.prog 87 #[.slice (some ⟨g, 0, none⟩) n c, .int .i64 (a : Int), .int .i64 (m : Int), .int .i64 (n : Int), .func (.func 54) #[] #[cp]] wr fun e w' => e = .returned (.tuple #[]) ∧ w'.ownsRow B 2 1 (.slice (some ⟨g, 0, none⟩) n c) n (nats (l.take a ++ (mrg lt (seg l a m) (seg l m n) ++ l.drop n))) ∧ w0.grownBy w' (some g) ∧ wr.grownBy w' (some g)) := Lib.hid (by
                  obtain ⟨h1, h2, h3, h4⟩ := HF.out
                  have hsa := Nat.dvd_trans (⟨2, by omega⟩ : s ∣ 2 * s) h2
                  have t1 := h4 a (by omega) hsa (Nat.le_refl _)
                  have t2 := h4 m (by omega) (by rw [HM.out]; exact Nat.dvd_add hsa (Nat.dvd_refl _)) (by omega)
                  have := HS2.out
                  rw [show min (a + s) n = m by omega] at t1
                  rw [show min (m + s) n = n by omega] at t2
                  exact HSY.out a m n l wr h1 (by omega) (by omega) (Nat.le_refl _) t1.1 t2.1 hown hbl)
                have HST : Hid (Pss lt n s2 0 (l.take a ++ (mrg lt (seg l a m) (seg l m n) ++ l.drop n))) := Lib.hid (by
                  have := HS2.out
                  have h := HF.out.step HSW.out (b := n) (by omega) (by omega) (by omega)
                  have h2 := h.fin (by omega) (by omega)
                  rw [← HM.out, ← HS2.out] at h2
                  exact h2)
                generalize l.take a ++ (mrg lt (seg l a m) (seg l m n) ++ l.drop n) = l2 at *
                clear hb hm hown hbl
                go_wp2_with (go_at_call 87; refine HC.out.mono ?_; rintro e w1 ⟨rfl, hown, hbl, hg1⟩)
                go_roundw
                case rel => exact ⟨s2, l2, by go_num, by omega, hs5, HST.out, hown, hbl, grownBy_trans hg hg1⟩
                case measure => simp [intOf]; omega
              · have h10 : decide ((m : Int) < (n : Int)) = false := decide_eq_false (by omega)
                have HST : Hid (Pss lt n s2 0 l) := Lib.hid (by
                  have := HS2.out
                  have h2 := HF.out.fin (by omega) (by omega)
                  rw [← HS2.out] at h2
                  exact h2)
                clear hb hm
                go_wp2
                go_roundw
                case rel => exact ⟨s2, l, by go_num, by omega, hs5, HST.out, hown, hbl, hg⟩
                case measure => simp [intOf]; omega
        · have h5 : decide ((s : Int) < (n : Int)) = false := decide_eq_false (by omega)
          have hfin := HF.out.all HSW.out h1 (by omega)
          subst hfin
          go_wp2
          go_end0
          exact ⟨rfl, hown, hbl, hg⟩

set_option maxHeartbeats 1000000 in
theorem sortBack_any {g : Nat} (cp : Value) (B n : Nat) (w0 w : World) (cf : Nat → Nat → Int) (lt : Nat → Nat → Bool) (hsw : SW lt) (hcf : ∀ x y, x < n → y < n → decide (cf x y < 0) = lt x y) (hcl : ClG Tryd.prog 54 cp (some g) n w0 cf) (c : Nat)
    (h1 : 1 ≤ n) (hn : n ≤ 2000) (hown : w.ownsRow B 2 1 (.slice (some ⟨g, 0, none⟩) n c) n (nats (List.range n))) (hbl : w0.grownBy w (some g)) :
    Calls Tryd.prog 51 #[.slice (some ⟨g, 0, none⟩) n c, .func (.func 54) #[] #[cp]] w fun e w' => e = .returned (.tuple #[]) ∧ w'.ownsRow B 2 1 (.slice (some ⟨g, 0, none⟩) n c) n (nats (ordX lt id n)) ∧ w0.grownBy w' (some g) ∧ w.grownBy w' (some g) := by
  have HS := Lib.hid (stableBack_any cp B n w0 w cf lt hsw hcf hcl c h1 hn hown hbl)
  clear hsw hcf hcl hown hbl
  go_enter Tryd.func51, Tryd.ntmps51
  go_wp2_with (go_at_call 70; refine HS.out.mono ?_; rintro e w1 ⟨rfl, ho, hb, hg⟩)
  go_end0
  exact ⟨rfl, ho, hb, hg⟩

end Go.Proofs.YtjobgobeiiakgaaDoor
