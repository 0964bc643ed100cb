/- The library's stable sort: one element merged into the sorted part ahead of it. -/
import Derived.Test.YtmocfnpbofeiiaaMFym1
namespace Go.Proofs.Ytmocfnpbofeiiaa
set_option linter.unusedSimpArgs false
set_option linter.unusedVariables false
open Go.RowKit
theorem sw2_comm (l : List Nat) (i j : Nat) (h : i ≠ j) : sw2 l i j = sw2 l j i := by unfold sw2; rw [List.set_comm _ _ h]
theorem shD_step (P Q S : List Nat) (x t k : Nat) (h : t < Q.length) (hk : k = P.length + t) : sw2 (shU P Q S x (t + 1)) (k + 1) k = shU P Q S x t := by
  rw [sw2_comm _ _ _ (by omega)]
  unfold shU
  have hy : Q.drop t = Q[t] :: Q.drop (t + 1) := List.drop_eq_getElem_cons (by omega)
  have ty : Q.take (t + 1) = Q.take t ++ [Q[t]] := List.take_succ_eq_append_getElem (by omega)
  have e := sw2_seg (P ++ Q.take t) [] (Q.drop (t + 1) ++ S) Q[t] x k (k + 1) (by simp; omega) (by simp; omega)
  rw [hy, ty]
  simp only [List.append_assoc, List.cons_append, List.nil_append] at e ⊢
  exact e
theorem getB (P Q S : List Nat) (x t k : Nat) (h : t < Q.length) (hk : k = P.length + t) : (P ++ (Q ++ x :: S))[k]?.getD 0 = Q[t]?.getD 0 := by
  rw [hk, List.getElem?_append_right (by omega), show P.length + t - P.length = t by omega, List.getElem?_append_left h]
theorem cutB {lt : Nat → Nat → Bool} (hsw : SW lt) {P Q S l : List Nat} {x a m i : Nat} (hl : l = P ++ (Q ++ x :: S)) (ha : P.length = a) (hm : a + Q.length = m) (hQ : Q.Pairwise (NS lt)) (hbs : Bs (fun h => !(lt (l[m]?.getD 0) (l[h]?.getD 0))) a m i i) :
    P ++ mrg lt Q [x] ++ S = shU P Q S x (i - a) := by
  obtain ⟨h1, -, h2, h3, h4⟩ := hbs
  have hx : l[m]?.getD 0 = x := by
    rw [hl, List.getElem?_append_right (by omega), List.getElem?_append_right (by omega), show m - P.length - Q.length = 0 by omega]; rfl
  rw [hx] at h3 h4
  rw [mrg_end hsw hQ x (i - a) (by omega) ?_ ?_, shU]
  · simp [List.append_assoc]
  · rcases h4 with h | h
    · left; omega
    · by_cases hi : i - a = Q.length
      · exact Or.inl hi
      · right
        rw [← getB P Q S x (i - a) i (by omega) (by omega), ← hl]; simpa using h
  · rcases h3 with h | h
    · left; omega
    · by_cases hi : i - a = 0
      · exact Or.inl hi
      · right
        rw [← getB P Q S x (i - a - 1) (i - 1) (by omega) (by omega), ← hl]; simpa using h

end Go.Proofs.Ytmocfnpbofeiiaa

/- The library's stable sort of float32 words (Sym2). -/
namespace Go.Proofs.Ytmocfnpbofeiiaa
set_option linter.unusedSimpArgs false
set_option linter.unusedVariables false
open Go.RowKit

set_option maxRecDepth 4000 in
set_option maxHeartbeats 2000000 in
theorem symBFall_any {g : Nat} (f : Nat → Nat) (B N n a m : Nat) (w0 w : World) (cf : Nat → Nat → Int) (lt : Nat → Nat → Bool) (hsw : SW lt) (hcf : ∀ x y, x < N → y < N → decide (cf x y < 0) = lt x y) (hcl : ClF Try.prog 131 f (some g) N w0 cf) (c : Nat) (P Q S : List Nat) (x : Nat) (l : List Nat) (hl : l = P ++ (Q ++ x :: S)) (hln : l.length = n) (hN : ∀ x ∈ l, x < N)
    (ha : P.length = a) (hb : a + Q.length = m) (h2 : 2 ≤ Q.length) (hQ : Q.Pairwise (NS lt)) (hn : n ≤ 4096) (hown : w.ownsRow B 32 1 (.slice (some ⟨g, 0, none⟩) n c) n (wds f l)) (hbl : w0.grownBy w (some g)) :
    Calls Try.prog 150 #[.slice (some ⟨g, 0, none⟩) n c, .int .i64 (a : Int), .int .i64 (m : Int), .int .i64 ((m + 1 : Nat) : Int), .func (.func 131) #[] #[]] w fun e w' => e = .returned (.tuple #[]) ∧ w'.ownsRow B 32 1 (.slice (some ⟨g, 0, none⟩) n c) n (wds f (P ++ mrg lt Q [x] ++ S)) ∧ w0.grownBy w' (some g) ∧ w.grownBy w' (some g) := by
  have hbn : m + 1 ≤ n := by rw [← hln, hl]; simp; omega
  obtain ⟨g', hg', hBg, hgl⟩ := own_some hown (by omega)
  obtain rfl : g = g' := by simpa using hg'
  clear hg'
  have HCL := Lib.hid hcl
  have HCF := Lib.hid hcf
  have HL := Lib.hid hln
  have HLL := Lib.hid hl
  have HMN := Lib.hid hN
  have HQ := Lib.hid hQ
  have HA := Lib.hid ha
  have HB := Lib.hid hb
  have ham : a + 2 ≤ m := by omega
  obtain ⟨d, hd⟩ : ∃ d, d = m - a := ⟨_, rfl⟩
  have e1 : IntKind.i64.wrap ((m : Int) - (a : Int)) = (d : Int) := by rw [hd, Int.ofNat_sub (by omega)]; exact IntWalk.i64_in _ (by omega)
  have n1 : ((d : Int) == 1) = false := beq_false_of_ne (by omega)
  clear hd
  obtain ⟨b, hm⟩ : ∃ b, b = m + 1 := ⟨_, rfl⟩
  have e2 : IntKind.i64.wrap ((b : Int) - (m : Int)) = 1 := by rw [show (b : Int) - (m : Int) = 1 by omega]; exact IntWalk.i64_in _ (by omega)
  rw [← hm] at hbn ⊢
  have hmb : m < b := by omega
  have hab : a ≤ m := by omega
  clear hcl hcf hln hl hN hQ ha hb hm h2
  obtain ⟨qq, hqq⟩ : ∃ qq : Nat → Bool, qq = fun h : Nat => !(lt (l[m]?.getD 0) (l[h]?.getD 0)) := ⟨_, rfl⟩
  have HQQ : Hid (∀ h, qq h = !(lt (l[m]?.getD 0) (l[h]?.getD 0))) := Lib.hid fun h => by rw [hqq]
  have HQL := Lib.hid hqq
  clear hqq
  go_enter Try.func150, Try.ntmps150
  go_wp2
  go_loopw [14, 15] (fun q r wr => ∃ i j : Nat, q = .int .i64 (i : Int) ∧ r = .int .i64 (j : Int) ∧ Bs qq a m i j ∧ wr.ownsRow B 32 1 (.slice (some ⟨g, 0, none⟩) n c) n (wds f l) ∧ w0.grownBy wr (some g) ∧ w.grownBy wr (some g)) (fun q r _ => (intOf r - intOf q).toNat)
  case atStart => exact ⟨a, m, rfl, rfl, Bs.start hab, hown, hbl, World.grownBy.refl _ _⟩
  case round =>
    clear hown hbl
    obtain ⟨i, j, rfl, rfl, hbs, hown, hbl, hg⟩ := hrel
    have HBS := Lib.hid hbs
    obtain ⟨k1, k2, k3, -, -⟩ := hbs
    by_cases hij : i < j
    · obtain ⟨h, hh⟩ : ∃ h, h = (i + j) / 2 := ⟨_, rfl⟩
      have hh1 : i ≤ h := by omega
      have hh2 : h < j := by omega
      have s2 : ((i : Int) + (j : Int)) / 2 = (h : Int) := by omega
      have hijn : i + j ≤ 8192 := by omega
      clear hh
      have c1 := hown.cellAt h (by omega)
      have c2 := hown.cellAt m (by omega)
      rw [wds_get f l _ (by rw [HL.out]; omega)] at c1 c2
      have hy := getNat HMN.out h (by rw [HL.out]; omega)
      have hx := getNat HMN.out m (by rw [HL.out]; omega)
      have hbd : ∀ q, w0.grownBy (wr.drewN q) (some g) := fun q => grown_drewN hbl q
      have HCC := HCL.out
      have hcc : ∀ q, Calls Try.prog 131 #[.float .f32 (f (l[m]?.getD 0)), .float .f32 (f (l[h]?.getD 0))] (wr.drewN q) fun e w' => e = .returned (.int .i64 (cf (l[m]?.getD 0) (l[h]?.getD 0))) ∧ ∃ mq, w' = (wr.drewN q).drewN mq := fun q => HCC _ _ _ (hbd q) hx hy
      clear HCC hbd
      have hk2 := HCF.out _ _ hx hy
      have HUP : Hid (lt (l[m]?.getD 0) (l[h]?.getD 0) = false → Bs qq a m (h + 1) j) := Lib.hid fun hq => HBS.out.up hh1 hh2 ((HQQ.out h).trans (by rw [hq]; rfl))
      have HDN : Hid (lt (l[m]?.getD 0) (l[h]?.getD 0) = true → Bs qq a m i h) := Lib.hid fun hq => HBS.out.down hh1 hh2 ((HQQ.out h).trans (by rw [hq]; rfl))
      have hhn : (h : Int) < (n : Int) := by omega
      have han : (m : Int) < (n : Int) := by omega
      generalize l[m]?.getD 0 = u at *
      generalize l[h]?.getD 0 = v at *
      generalize cf u v = z at *
      clear HBS
      cases hlt2 : lt u v
      · rw [hlt2] at hk2 HUP
        have HE := Lib.hid (HUP.out rfl)
        clear hlt2 HUP HDN
        go_wp2
        go_quiet ((go_at_call 131; exact Calls.quiet_of (hcc _)))
        go_wp2
        go_roundw
        case rel => exact ⟨h + 1, j, by go_num, rfl, HE.out, own_drewN hown _, grown_drewN hbl _, grown_drewN hg _⟩
        case measure => simp only [intOf]; omega
      · rw [hlt2] at hk2 HDN
        have HE := Lib.hid (HDN.out rfl)
        clear hlt2 HUP HDN
        go_wp2
        go_quiet ((go_at_call 131; exact Calls.quiet_of (hcc _)))
        go_wp2
        go_roundw
        case rel => exact ⟨i, h, rfl, rfl, HE.out, own_drewN hown _, grown_drewN hbl _, grown_drewN hg _⟩
        case measure => simp only [intOf]; omega
    · obtain rfl : i = j := by omega
      clear e1
      go_wp2
      obtain ⟨wo, hwo⟩ : ∃ wo : World, wo = wr := ⟨_, rfl⟩
      rw [← hwo] at hown hbl hg ⊢
      clear hwo wr
      have HCUT : Hid (wds f (P ++ mrg lt Q [x] ++ S) = wds f (shU P Q S x (i - a))) := Lib.hid (by
        have := HBS.out
        rw [HQL.out] at this
        exact congrArg (wds f) (cutB hsw HLL.out HA.out HB.out HQ.out this))
      have hbl0 := hbl
      have H0 : Hid (shU P Q S x (m - a) = l) := Lib.hid (by rw [HLL.out, show m - a = Q.length by have := HB.out; omega]; simp [shU])
      have him : i ≤ m := k3
      have HQB : Hid (a + Q.length = m) := Lib.hid HB.out
      clear HBS
      go_loopw [17] (fun q wr => ∃ k : Nat, q = .int .i64 (k : Int) ∧ i ≤ k ∧ k ≤ m ∧ wr.ownsRow B 32 1 (.slice (some ⟨g, 0, none⟩) n c) n (wds f (shU P Q S x (k - a))) ∧ w0.grownBy wr (some g) ∧ w.grownBy wr (some g)) (fun q _ => (intOf q).toNat)
      case atStart => exact ⟨m, rfl, him, Nat.le_refl _, by rw [H0.out]; exact hown, hbl, hg⟩
      case round =>
        clear hown hbl hg hbl0
        obtain ⟨k, rfl, hk1, hk2, hown, hbl, hg⟩ := hrel
        by_cases hke : i < k
        · obtain ⟨k', hk'⟩ : ∃ k', k = k' + 1 := ⟨k - 1, by omega⟩
          have hsc : sw2 (shU P Q S x (k - a)) k k' = shU P Q S x (k' - a) := by
            rw [hk', show k' + 1 - a = k' - a + 1 by omega, shD_step P Q S x (k' - a) k' (by have := HQB.out; omega) (by have := HA.out; omega)]
          have hll : (shU P Q S x (k - a)).length = n := by rw [← HL.out, ← H0.out, shU_length, shU_length]
          have HSC := Lib.hid hsc
          clear hsc
          generalize shU P Q S x (k - a) = L at *
          have c1 := hown.cellAt k (by omega)
          have c2 := hown.cellAt k' (by omega)
          rw [wds_get f L _ (by omega)] at c1 c2
          have f1 := hown.frozenAt k
          have f2 := hown.frozenAt k'
          have HST : Hid (((wr.setCell ⟨g, k, none⟩ (.float .f32 (f (L[k']?.getD 0)))).setCell ⟨g, k', none⟩ (.float .f32 (f (L[k]?.getD 0)))).ownsRow B 32 1 (.slice (some ⟨g, 0, none⟩) n c) n (wds f (sw2 L k k'))) := by
            show World.ownsRow _ _ _ _ _ _ _
            have := ((hown.stored k (.float .f32 (f (L[k']?.getD 0)))).1.stored k' (.float .f32 (f (L[k]?.getD 0)))).1
            unfold sw2
            rw [wds_set f, wds_set f]
            exact this
          have HGS : Hid (wr.grownBy ((wr.setCell ⟨g, k, none⟩ (.float .f32 (f (L[k']?.getD 0)))).setCell ⟨g, k', none⟩ (.float .f32 (f (L[k]?.getD 0)))) (some g)) := by
            show World.grownBy _ _ _
            exact grownBy_trans (hown.stored k _).2 ((hown.stored k _).1.stored k' _).2
          have HGR : Hid (w.grownBy ((wr.setCell ⟨g, k, none⟩ (.float .f32 (f (L[k']?.getD 0)))).setCell ⟨g, k', none⟩ (.float .f32 (f (L[k]?.getD 0)))) (some g)) := by
            show World.grownBy _ _ _
            exact grownBy_trans (grownBy_trans hg (hown.stored k _).2) ((hown.stored k _).1.stored k' _).2
          generalize L[k]?.getD 0 = u at *
          generalize L[k']?.getD 0 = v at *
          have e4 : IntKind.i64.wrap ((k : Int) - 1) = (k' : Int) := by rw [show (k : Int) - 1 = (k' : Int) by omega]; exact IntWalk.i64_in _ (by omega)
          have g1 : (k : Int) < (n : Int) := by omega
          have g2 : (k' : Int) < (n : Int) := by omega
          have g3 : k' ≤ m := by omega
          have g4 : i ≤ k' := by omega
          have hpq : k ≠ k' := by omega
          have hps : (k : Int) - 1 = (k' : Int) := by omega
          clear hk' hll
          have d1 : (wr.setCell ⟨g, k, none⟩ (.float .f32 (f v))).cell? ⟨g, k', none⟩ = some (.float .f32 (f v)) := (World.cell?_setCell_other _ _ _ _ (fun e => hpq (congrArg Addr.off e))).trans c2
          have d2 : (wr.setCell ⟨g, k', none⟩ (.float .f32 (f u))).cell? ⟨g, k, none⟩ = some (.float .f32 (f u)) := (World.cell?_setCell_other _ _ _ _ (fun e => hpq (congrArg Addr.off e).symm)).trans c1
          go_wp2
          go_region
          go_wp2
          go_roundw
          case rel => exact ⟨k', by go_num, g4, g3, by rw [← HSC.out]; exact own_drew HST.out, grown_drew (grownBy_trans hbl HGS.out), grown_drew HGR.out⟩
          case measure => simp only [intOf]; omega
        · obtain rfl : k = i := by omega
          go_wp2
          exact bodyPost_ret (v := .tuple #[]) (results_none rfl _ _ _) rfl ⟨rfl, by rw [HCUT.out]; exact hown, hbl, hg⟩

end Go.Proofs.Ytmocfnpbofeiiaa
