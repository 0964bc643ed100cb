/- The library's insertion sort of float32 words: places sorted. -/
import Derived.Test.YtmocfnpbofeiiaaMSrg
import Derived.Test.YtmocfnpbofeiiaaMSwt
namespace Go.Proofs.Ytmocfnpbofeiiaa
set_option linter.unusedSimpArgs false
set_option linter.unusedVariables false
open Go.RowKit
/-- The words at places. -/
abbrev wds (f : Nat → Nat) (l : List Nat) : List Value := l.map (fun x : Nat => Value.float .f32 (f x))
theorem wds_get (f : Nat → Nat) (l : List Nat) (k : Nat) (hk : k < l.length) : (wds f l)[k]? = some (.float .f32 (f (l[k]?.getD 0))) := by
  simp [List.getElem?_eq_getElem hk]
theorem wds_set (f : Nat → Nat) (l : List Nat) (k x : Nat) : wds f (l.set k x) = (wds f l).set k (.float .f32 (f x)) := by simp [List.map_set]
/-- What a comparison does when it is called: it reads what lies in w0, but not the row. -/
def ClF (P : Program) (F : Nat) (f : Nat → Nat) (r : Option Nat) (N : Nat) (w0 : World) (cf : Nat → Nat → Int) : Prop :=
  ∀ (W : World) (x y : Nat), w0.grownBy W r → x < N → y < N → Calls P F #[.float .f32 (f x), .float .f32 (f y)] W fun e w' => e = .returned (.int .i64 (cf x y)) ∧ Qu W w'
theorem Rot.map {l g : List Nat} {m i j : Nat} (f : Nat → Nat) (h : Rot l m i j g) : Rot (l.map f) m i j (g.map f) := by
  obtain ⟨P, X, Y, S, rfl, h1, h2, h3, rfl⟩ := h
  exact ⟨P.map f, X.map f, Y.map f, S.map f, by simp, by simpa using h1, by simpa using h2, by simpa using h3, by simp⟩
theorem wds_fls (f : Nat → Nat) (l : List Nat) : wds f l = fls (l.map f) := by unfold fls; rw [List.map_map]; rfl
theorem rotW_any (f : Nat → Nat) (ad : Option Addr) (c B n a m b : Nat) (l G : List Nat) (w : World) (cmp : Value) (hl : l.length = n) (ham : a < m) (hmb : m < b) (hb : b ≤ n) (hR : Rot l m (m - a) (b - m) G) (hn : n ≤ 4096) (hown : w.ownsRow B 32 1 (.slice ad n c) n (wds f l)) :
    Calls Try.prog 152 #[.slice ad n c, .int .i64 (a : Int), .int .i64 (m : Int), .int .i64 (b : Int), cmp] w fun e w' => e = .returned (.tuple #[]) ∧ w'.ownsRow B 32 1 (.slice ad n c) n (wds f G) ∧ w.grownBy w' (Value.slice ad n c).ownBlock := by
  rw [wds_fls] at hown
  rw [wds_fls]
  exact rotF_any ad c B n a m b _ _ w cmp (by rw [List.length_map]; exact hl) ham hmb hb (hR.map f) hn hown

set_option maxHeartbeats 2000000 in
theorem insFall_any {g : Nat} (f : Nat → Nat) (B N n a m : Nat) (w0 w : World) (cf : Nat → Nat → Int) (lt : Nat → Nat → Bool) (hcf : ∀ x y, x < N → y < N → decide (cf x y < 0) = lt x y) (hcl : ClF Try.prog 131 f (some g) N w0 cf) (c : Nat) (l : List Nat) (hl : l.length = n) (hN : ∀ x ∈ l, x < N)
    (ham : a + m ≤ n) (hm : 1 ≤ m) (hn : n ≤ 4096) (hown : w.ownsRow B 32 1 (.slice (some ⟨g, 0, none⟩) n c) n (wds f l)) (hb : w0.grownBy w (some g)) :
    Calls Try.prog 149 #[.slice (some ⟨g, 0, none⟩) n c, .int .i64 (a : Int), .int .i64 ((a + m : Nat) : Int), .func (.func 131) #[] #[]] w fun e w' => e = .returned (.tuple #[]) ∧ w'.ownsRow B 32 1 (.slice (some ⟨g, 0, none⟩) n c) n (wds f (insR lt a l (m - 1))) ∧ w0.grownBy w' (some g) ∧ w.grownBy w' (some g) := by
  obtain ⟨g', hg', hBg, hgl⟩ := own_some hown (by omega)
  obtain rfl : g = g' := by simpa using hg'
  clear hg'
  have HCL := Lib.hid hcl
  have HCF := Lib.hid hcf
  have HL := Lib.hid hl
  have HMN := Lib.hid hN
  clear hcl hcf hl hN
  go_enter Try.func149, Try.ntmps149
  go_wp2
  go_loopw [8] (fun i wr => ∃ k : Nat, k ≤ m - 1 ∧ i = .int .i64 ((a + 1 + k : Nat) : Int) ∧ wr.ownsRow B 32 1 (.slice (some ⟨g, 0, none⟩) n c) n (wds f (insR lt a l k)) ∧ (∀ x ∈ insR lt a l k, x < N) ∧ w0.grownBy wr (some g) ∧ w.grownBy wr (some g)) (fun i _ => a + m - (intOf i).toNat)
  case atStart => exact ⟨0, Nat.zero_le _, by simp, hown, HMN.out, hb, World.grownBy.refl _ _⟩
  case round =>
    clear hown hb
    obtain ⟨k, hk, rfl, hown, hmem, hb, hg⟩ := hrel
    by_cases hlt : k < m - 1
    · go_wp2
      obtain ⟨wo, hwo⟩ : ∃ wo : World, wo = wr := ⟨_, rfl⟩
      rw [← hwo] at hown hb hg ⊢
      clear hwo wr
      have HG : Hid (insR lt a l (k + 1) = bub lt a (insR lt a l k) (a + 1 + k)) := rfl
      obtain ⟨goal, hgoal⟩ : ∃ goal, goal = insR lt a l (k + 1) := ⟨_, rfl⟩
      rw [← hgoal] at HG
      have HGL := Lib.hid hgoal
      have HGLN : Hid (goal.length = n) := by show _ = _; rw [hgoal, insR_length, HL.out]
      clear hgoal
      have hlen : (insR lt a l k).length = n := by rw [insR_length, HL.out]
      generalize insR lt a l k = L0 at *
      go_loopw [9] (fun q wr => ∃ (j : Nat) (L : List Nat), q = .int .i64 (j : Int) ∧ j < n ∧ L.length = n ∧ wr.ownsRow B 32 1 (.slice (some ⟨g, 0, none⟩) n c) n (wds f L) ∧ (∀ x ∈ L, x < N) ∧ bub lt a L j = goal ∧ w0.grownBy wr (some g) ∧ w.grownBy wr (some g)) (fun q _ => (intOf q).toNat)
      case atStart => exact ⟨a + 1 + k, L0, rfl, by omega, hlen, hown, hmem, HG.out.symm, hb, hg⟩
      case round =>
        clear hown hmem hb hg hlen HG
        obtain ⟨j, L, rfl, hj, hlen, hown, hmem, hbub, hb, hg⟩ := hrel
        by_cases haj : a < j
        · obtain ⟨p, hp⟩ : ∃ p, j = p + 1 := ⟨j - 1, by omega⟩
          have c1 := hown.cellAt j (by omega)
          have c2 := hown.cellAt p (by omega)
          rw [wds_get f L _ (by omega)] at c1 c2
          have f1 := hown.frozenAt j
          have f2 := hown.frozenAt p
          have hx := getNat hmem j (by omega)
          have hy := getNat hmem p (by omega)
          have HS : Hid (wds f (swp L p) = ((wds f L).set j (.float .f32 (f (L[p]?.getD 0)))).set p (.float .f32 (f (L[j]?.getD 0)))) := by show _ = _; rw [hp]; simp [swp, List.map_set]
          have HB1 : Hid (lt (L[j]?.getD 0) (L[p]?.getD 0) = true → bub lt a (swp L p) p = goal) := fun h => by rw [← hbub, hp, bub, if_pos ⟨by omega, by rw [← hp]; exact h⟩]
          have HB2 : Hid (lt (L[j]?.getD 0) (L[p]?.getD 0) = false → L = goal) := fun h => by rw [← hbub, hp, bub, if_neg (fun x => by rw [← hp, h] at x; cases x.2)]
          have HST := Lib.hid (hown.stored j (.float .f32 (f (L[p]?.getD 0))))
          have HSM := Lib.hid (swp_mem hmem (j := p) (by omega))
          clear hbub
          have hbd : ∀ q, w0.grownBy (wr.drewN q) (some g) := fun q => grown_drewN hb q
          have HCC := HCL.out
          have hcc : ∀ q, Calls Try.prog 131 #[.float .f32 (f (L[j]?.getD 0)), .float .f32 (f (L[p]?.getD 0))] (wr.drewN q) fun e w' => e = .returned (.int .i64 (cf (L[j]?.getD 0) (L[p]?.getD 0))) ∧ ∃ mq, w' = (wr.drewN q).drewN mq := fun q => HCC _ _ _ (hbd q) hx hy
          clear HCC hbd
          have hk2 := HCF.out _ _ hx hy
          have HLEN := Lib.hid hlen
          generalize L[j]?.getD 0 = x at *
          generalize L[p]?.getD 0 = y at *
          generalize cf x y = z at *
          clear hlen
          have hg1 : decide (a < j) = true := decide_eq_true haj
          have hj1 : (j : Int) - 1 = (p : Int) := by omega
          have HP := Lib.hid hp
          have hpn : p < n := by omega
          have hjm : (j : Int) ≤ 4096 := by omega
          have hj0 : (1 : Int) ≤ (j : Int) := by omega
          clear hp
          cases hlt2 : lt x y
          · rw [hlt2] at hk2
            have HE : Hid (L = goal) := HB2.out hlt2
            clear hlt2 f1 f2
            go_wp2
            go_quiet ((go_at_call 131; exact Calls.quiet_of (hcc _)))
            go_wp2
            go_roundw
            case rel => exact ⟨k + 1, by omega, by go_num, by rw [← HGL.out, ← HE.out]; exact own_drewN hown _, by rw [← HGL.out, ← HE.out]; exact hmem, grown_drewN hb _, grown_drewN hg _⟩
            case measure => simp [intOf]; omega
          · rw [hlt2] at hk2
            have HE : Hid (bub lt a (swp L p) p = goal) := HB1.out hlt2
            clear hlt2
            go_wp2
            go_quiet ((go_at_call 131; exact Calls.quiet_of (hcc _)))
            go_wp2
            go_region
            go_wp2
            go_roundw
            case rel => exact ⟨p, swp L p, rfl, hpn, by rw [swp_length]; exact HLEN.out, by rw [HS.out]; exact ((own_drewN hown _).stored j _).1.stored p _ |>.1, HSM.out, HE.out, grownBy_trans (grownBy_trans (grown_drewN hb _) ((own_drewN hown _).stored j _).2) (((own_drewN hown _).stored j _).1.stored p _).2, grownBy_trans (grownBy_trans (grown_drewN hg _) ((own_drewN hown _).stored j _).2) (((own_drewN hown _).stored j _).1.stored p _).2⟩
            case measure => simp [intOf]; omega
        · have HE : Hid (L = goal) := by
            show L = goal
            rw [← hbub, bub_stop _ _ _ _ (by omega)]
          have hg1 : decide (a < j) = false := decide_eq_false haj
          clear hbub
          go_wp2
          go_quiet (fail)
          go_wp2
          go_roundw
          case rel => exact ⟨k + 1, by omega, by go_num, by rw [← HGL.out, ← HE.out]; exact own_drewN hown _, by rw [← HGL.out, ← HE.out]; exact hmem, grown_drewN hb _, grown_drewN hg _⟩
          case measure => simp [intOf]; omega
    · obtain rfl : k = m - 1 := by omega
      go_wp2
      go_end0
      exact ⟨rfl, hown, hb, hg⟩

end Go.Proofs.Ytmocfnpbofeiiaa
