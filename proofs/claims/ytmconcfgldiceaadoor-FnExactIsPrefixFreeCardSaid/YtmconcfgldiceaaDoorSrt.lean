/- Comparisons, and insertion sorts of the library over a comparison of one's own. -/
import Derived.Test.YtmconcfgldiceaaDoorOrd
import Derived.Test.YtmconcfgldiceaaDoorHar
import Derived.Deep.RegionHeld3
namespace Go.Proofs.YtmconcfgldiceaaDoor
set_option linter.unusedSimpArgs false
set_option linter.unusedVariables false
open Go.RowKit

/-- What a comparison says of two numbers. -/
def cmpI (x y : Int) : Int := if x < y then -1 else if y < x then 1 else 0
theorem cmpI_neg (x y : Int) : cmpI x y < 0 ↔ x < y := by unfold cmpI; split <;> (try split) <;> omega
theorem ncmpI (x y : Int) : decide (cmpI x y < 0) = decide (x < y) := by
  rw [decide_eq_decide]; exact cmpI_neg x y
theorem cmpI_bd (x y : Int) : -1 ≤ cmpI x y ∧ cmpI x y ≤ 1 := by unfold cmpI; split <;> (try split) <;> omega
theorem isNaN64_any (x : Int) (w : World) : Calls Tryd.prog 78 #[.int .i64 x] w fun e w' => e = .returned (.bool false) ∧ w = w' := by
  have h : (x != x) = false := by simp
  go_enter Tryd.func78, Tryd.ntmps78
  go_wp2
  go_ret
  exact ⟨rfl, rfl⟩
theorem compare64_any (x y : Int) (w : World) : Calls Tryd.prog 54 #[.int .i64 x, .int .i64 y] w fun e w' => e = .returned (.int .i64 (cmpI x y)) ∧ w = w' := by
  by_cases h1 : x < y
  · have H : Hid (cmpI x y = -1) := if_pos h1
    go_enter Tryd.func54, Tryd.ntmps54
    go_wp2_with (go_at_call 78; refine (isNaN64_any _ _).mono ?_; rintro e w' ⟨rfl, rfl⟩)
    go_ret
    exact ⟨ret_int H.out.symm, rfl⟩
  · by_cases h2 : y < x
    · have H : Hid (cmpI x y = 1) := by show cmpI x y = 1; unfold cmpI; rw [if_neg h1, if_pos h2]
      go_enter Tryd.func54, Tryd.ntmps54
      go_wp2_with (go_at_call 78; refine (isNaN64_any _ _).mono ?_; rintro e w' ⟨rfl, rfl⟩)
      go_ret
      exact ⟨ret_int H.out.symm, rfl⟩
    · have H : Hid (cmpI x y = 0) := by show cmpI x y = 0; unfold cmpI; rw [if_neg h1, if_neg h2]
      go_enter Tryd.func54, Tryd.ntmps54
      go_wp2_with (go_at_call 78; refine (isNaN64_any _ _).mono ?_; rintro e w' ⟨rfl, rfl⟩)
      go_ret
      exact ⟨ret_int H.out.symm, rfl⟩
/-- Numbers as values. -/
abbrev nats (l : List Nat) : List Value := l.map (fun x : Nat => Value.int .i64 (x : Int))
theorem getNat {l : List Nat} {N : Nat} (h : ∀ x ∈ l, x < N) (k : Nat) (hk : k < l.length) : l[k]?.getD 0 < N := by
  rw [List.getElem?_eq_getElem hk]; exact h _ (List.getElem_mem hk)
theorem nats_get (l : List Nat) (k : Nat) (hk : k < l.length) : (nats l)[k]? = some (.int .i64 ((l[k]?.getD 0 : Nat) : Int)) := by
  simp [List.getElem?_eq_getElem hk]
theorem swp_mem {l : List Nat} {j : Nat} {N : Nat} (h : ∀ x ∈ l, x < N) (hj : j + 1 < l.length) : ∀ x ∈ swp l j, x < N := fun x hx => h x ((swp_perm l j hj).mem_iff.1 hx)
theorem bub_stop (lt : Nat → Nat → Bool) (a : Nat) (l : List Nat) (j : Nat) (h : j ≤ a) : bub lt a l j = l := by
  cases j with
  | zero => rfl
  | succ j => unfold bub; rw [if_neg (fun x => by omega)]
theorem own_drewN {w : World} {b : Nat} {e : TypeId} {s : Nat} {v : Value} {n : Nat} {xs : List Value} (h : w.ownsRow b e s v n xs) (q : Nat) : (w.drewN q).ownsRow b e s v n xs := ownsRow_below h ((Qu.refl _).drewN q).keep
theorem own_drew {w : World} {b : Nat} {e : TypeId} {s : Nat} {v : Value} {n : Nat} {xs : List Value} (h : w.ownsRow b e s v n xs) : w.drew.ownsRow b e s v n xs := ownsRow_below h ((Qu.refl _).drew).keep
theorem grown_drewN {a w : World} {row : Option Nat} (h : a.grownBy w row) (n : Nat) : a.grownBy (w.drewN n) row := ⟨h.os, h.tape, h.output, h.size, h.block⟩
theorem grown_drew {a w : World} {row : Option Nat} (h : a.grownBy w row) : a.grownBy w.drew row := ⟨h.os, h.tape, h.output, h.size, h.block⟩
/-- What a comparison does when it is called: it reads what lies below B as it was in w0. -/
def ClR (P : Program) (F : Nat) (cp : Value) (B N : Nat) (w0 : World) (cf : Nat → Nat → Int) : Prop :=
  ∀ (W : World) (x y : Nat), Below B w0 W → x < N → y < N → Calls P F #[.int .i64 (x : Int), .int .i64 (y : Int), cp] W fun e w' => e = .returned (.int .i64 (cf x y)) ∧ Qu W w'

set_option maxHeartbeats 2000000 in
theorem insWords_any (cp : Value) (B N n a m : Nat) (w0 w : World) (cf : Nat → Nat → Int) (lt : Nat → Nat → Bool) (hcf : ∀ x y, x < N → y < N → decide (cf x y < 0) = lt x y) (hcl : ClR Tryd.prog 53 cp B N w0 cf) (ad : Option Addr) (c : Nat) (l : List Nat) (hl : l.length = n) (hN : ∀ x ∈ l, x < N)
    (ham : a + m ≤ n) (hm : 1 ≤ m) (hn : n ≤ 4096) (hown : w.ownsRow B 3 1 (.slice ad n c) n (nats l)) (hb : Below B w0 w) :
    Calls Tryd.prog 93 #[.slice ad n c, .int .i64 (a : Int), .int .i64 ((a + m : Nat) : Int), .func (.func 53) #[] #[cp]] w fun e w' => e = .returned (.tuple #[]) ∧ w'.ownsRow B 3 1 (.slice ad n c) n (nats (insR lt a l (m - 1))) ∧ Below B w0 w' ∧ w.grownBy w' (Value.slice ad n c).ownBlock := by
  obtain ⟨g, rfl, hBg, hgl⟩ := own_some hown (by omega)
  have HCL := Lib.hid hcl
  have HCF := Lib.hid hcf
  have HL := Lib.hid hl
  have HMN := Lib.hid hN
  clear hcl hcf hl hN
  go_enter Tryd.func93, Tryd.ntmps93
  go_wp2
  go_loopw [8] (fun i wr => ∃ k : Nat, k ≤ m - 1 ∧ i = .int .i64 ((a + 1 + k : Nat) : Int) ∧ wr.ownsRow B 3 1 (.slice (some ⟨g, 0, none⟩) n c) n (nats (insR lt a l k)) ∧ (∀ x ∈ insR lt a l k, x < N) ∧ Below B w0 wr ∧ w.grownBy wr (some g)) (fun i _ => a + m - (intOf i).toNat)
  case atStart => exact ⟨0, Nat.zero_le _, by simp, hown, HMN.out, hb, World.grownBy.refl _ _⟩
  case round =>
    clear hown hb
    obtain ⟨k, hk, rfl, hown, hmem, hb, hg⟩ := hrel
    by_cases hlt : k < m - 1
    · go_wp2
      obtain ⟨wo, hwo⟩ : ∃ wo : World, wo = wr := ⟨_, rfl⟩
      rw [← hwo] at hown hb hg ⊢
      clear hwo wr
      have HG : Hid (insR lt a l (k + 1) = bub lt a (insR lt a l k) (a + 1 + k)) := rfl
      obtain ⟨goal, hgoal⟩ : ∃ goal, goal = insR lt a l (k + 1) := ⟨_, rfl⟩
      rw [← hgoal] at HG
      have HGL := Lib.hid hgoal
      have HGLN : Hid (goal.length = n) := by show _ = _; rw [hgoal, insR_length, HL.out]
      clear hgoal
      have hlen : (insR lt a l k).length = n := by rw [insR_length, HL.out]
      generalize insR lt a l k = L0 at *
      go_loopw [9] (fun q wr => ∃ (j : Nat) (L : List Nat), q = .int .i64 (j : Int) ∧ j < n ∧ L.length = n ∧ wr.ownsRow B 3 1 (.slice (some ⟨g, 0, none⟩) n c) n (nats L) ∧ (∀ x ∈ L, x < N) ∧ bub lt a L j = goal ∧ Below B w0 wr ∧ w.grownBy wr (some g)) (fun q _ => (intOf q).toNat)
      case atStart => exact ⟨a + 1 + k, L0, rfl, by omega, hlen, hown, hmem, HG.out.symm, hb, hg⟩
      case round =>
        clear hown hmem hb hg hlen HG
        obtain ⟨j, L, rfl, hj, hlen, hown, hmem, hbub, hb, hg⟩ := hrel
        by_cases haj : a < j
        · obtain ⟨p, hp⟩ : ∃ p, j = p + 1 := ⟨j - 1, by omega⟩
          have c1 := hown.cellAt j (by omega)
          have c2 := hown.cellAt p (by omega)
          rw [nats_get L _ (by omega)] at c1 c2
          have f1 := hown.frozenAt j
          have f2 := hown.frozenAt p
          have hx := getNat hmem j (by omega)
          have hy := getNat hmem p (by omega)
          have HS : Hid (nats (swp L p) = ((nats L).set j (.int .i64 ((L[p]?.getD 0 : Nat) : Int))).set p (.int .i64 ((L[j]?.getD 0 : Nat) : Int))) := by show _ = _; rw [hp]; simp [swp, List.map_set]
          have HB1 : Hid (lt (L[j]?.getD 0) (L[p]?.getD 0) = true → bub lt a (swp L p) p = goal) := fun h => by rw [← hbub, hp, bub, if_pos ⟨by omega, by rw [← hp]; exact h⟩]
          have HB2 : Hid (lt (L[j]?.getD 0) (L[p]?.getD 0) = false → L = goal) := fun h => by rw [← hbub, hp, bub, if_neg (fun x => by rw [← hp, h] at x; cases x.2)]
          have HST := Lib.hid (hown.stored j (.int .i64 ((L[p]?.getD 0 : Nat) : Int)))
          have HSM := Lib.hid (swp_mem hmem (j := p) (by omega))
          clear hbub
          have hbd : ∀ q, Below B w0 (wr.drewN q) := fun q => below_drewN hb q
          have HCC := HCL.out
          have hcc : ∀ q, Calls Tryd.prog 53 #[.int .i64 ((L[j]?.getD 0 : Nat) : Int), .int .i64 ((L[p]?.getD 0 : Nat) : Int), cp] (wr.drewN q) fun e w' => e = .returned (.int .i64 (cf (L[j]?.getD 0) (L[p]?.getD 0))) ∧ ∃ mq, w' = (wr.drewN q).drewN mq := fun q => HCC _ _ _ (hbd q) hx hy
          clear HCC hbd
          have hk2 := HCF.out _ _ hx hy
          have HLEN := Lib.hid hlen
          generalize L[j]?.getD 0 = x at *
          generalize L[p]?.getD 0 = y at *
          generalize cf x y = z at *
          clear hlen
          have hg1 : decide (a < j) = true := decide_eq_true haj
          have hj1 : (j : Int) - 1 = (p : Int) := by omega
          have HP := Lib.hid hp
          have hpn : p < n := by omega
          have hjm : (j : Int) ≤ 4096 := by omega
          have hj0 : (1 : Int) ≤ (j : Int) := by omega
          clear hp
          cases hlt2 : lt x y
          · rw [hlt2] at hk2
            have HE : Hid (L = goal) := HB2.out hlt2
            clear hlt2 f1 f2
            go_wp2
            go_quiet ((go_at_call 53; exact Calls.quiet_of (hcc _)))
            go_wp2
            go_roundw
            case rel => exact ⟨k + 1, by omega, by go_num, by rw [← HGL.out, ← HE.out]; exact own_drewN hown _, by rw [← HGL.out, ← HE.out]; exact hmem, below_drewN hb _, grown_drewN hg _⟩
            case measure => simp [intOf]; omega
          · rw [hlt2] at hk2
            have HE : Hid (bub lt a (swp L p) p = goal) := HB1.out hlt2
            clear hlt2
            go_wp2
            go_quiet ((go_at_call 53; exact Calls.quiet_of (hcc _)))
            go_wp2
            go_region
            go_wp2
            go_roundw
            case rel => exact ⟨p, swp L p, rfl, hpn, by rw [swp_length]; exact HLEN.out, by rw [HS.out]; exact ((own_drewN hown _).stored j _).1.stored p _ |>.1, HSM.out, HE.out, ((below_drewN hb _).setCell hBg _).setCell hBg _, grownBy_trans (grownBy_trans (grown_drewN hg _) ((own_drewN hown _).stored j _).2) (((own_drewN hown _).stored j _).1.stored p _).2⟩
            case measure => simp [intOf]; omega
        · have HE : Hid (L = goal) := by
            show L = goal
            rw [← hbub, bub_stop _ _ _ _ (by omega)]
          have hg1 : decide (a < j) = false := decide_eq_false haj
          clear hbub
          go_wp2
          go_quiet (fail)
          go_wp2
          go_roundw
          case rel => exact ⟨k + 1, by omega, by go_num, by rw [← HGL.out, ← HE.out]; exact own_drewN hown _, by rw [← HGL.out, ← HE.out]; exact hmem, below_drewN hb _, grown_drewN hg _⟩
          case measure => simp [intOf]; omega
    · obtain rfl : k = m - 1 := by omega
      go_wp2
      go_end0
      exact ⟨rfl, hown, hb, hg⟩

end Go.Proofs.YtmconcfgldiceaaDoor
