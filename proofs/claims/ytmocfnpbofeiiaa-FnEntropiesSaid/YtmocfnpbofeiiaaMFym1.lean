/- The library's stable sort: one element merged into a sorted part. -/
import Derived.Test.YtmocfnpbofeiiaaMSwt
import Derived.Test.YtmocfnpbofeiiaaMSrg
import Derived.Test.YtmocfnpbofeiiaaMFrg
namespace Go.Proofs.Ytmocfnpbofeiiaa
set_option linter.unusedSimpArgs false
set_option linter.unusedVariables false
open Go.RowKit
/-- Where a halving search stands: what q says of the last place left behind and of the first place given up. -/
def Bs (q : Nat → Bool) (lo hi i j : Nat) : Prop := lo ≤ i ∧ i ≤ j ∧ j ≤ hi ∧ (i = lo ∨ q (i - 1) = true) ∧ (j = hi ∨ q j = false)
theorem Bs.start {q : Nat → Bool} {lo hi : Nat} (h : lo ≤ hi) : Bs q lo hi lo hi := ⟨Nat.le_refl _, h, Nat.le_refl _, Or.inl rfl, Or.inl rfl⟩
theorem Bs.up {q : Nat → Bool} {lo hi i j h : Nat} (H : Bs q lo hi i j) (h1 : i ≤ h) (h2 : h < j) (hq : q h = true) : Bs q lo hi (h + 1) j := ⟨by have := H.1; omega, by omega, H.2.2.1, Or.inr hq, H.2.2.2.2⟩
theorem Bs.down {q : Nat → Bool} {lo hi i j h : Nat} (H : Bs q lo hi i j) (h1 : i ≤ h) (h2 : h < j) (hq : q h = false) : Bs q lo hi i h := ⟨H.1, h1, by have := H.2.2.1; omega, H.2.2.2.1, Or.inr hq⟩
theorem half_in {i j : Nat} (h : i < j) : i ≤ (i + j) / 2 ∧ (i + j) / 2 < j := by omega
/-- x moved t places up into Q. -/
def shU (P Q S : List Nat) (x t : Nat) : List Nat := P ++ Q.take t ++ x :: (Q.drop t ++ S)
theorem shU_step (P Q S : List Nat) (x t k : Nat) (h : t < Q.length) (hk : k = P.length + t) : sw2 (shU P Q S x t) k (k + 1) = shU P Q S x (t + 1) := by
  unfold shU
  have hy : Q.drop t = Q[t] :: Q.drop (t + 1) := List.drop_eq_getElem_cons (by omega)
  have ty : Q.take (t + 1) = Q.take t ++ [Q[t]] := List.take_succ_eq_append_getElem (by omega)
  have e := sw2_seg (P ++ Q.take t) [] (Q.drop (t + 1) ++ S) x Q[t] k (k + 1) (by simp; omega) (by simp; omega)
  rw [hy, ty]
  simp only [List.append_assoc, List.cons_append, List.nil_append] at e ⊢
  exact e
theorem shU_length (P Q S : List Nat) (x t : Nat) : (shU P Q S x t).length = (P ++ x :: (Q ++ S)).length := by
  unfold shU
  have := congrArg List.length (List.take_append_drop t Q)
  simp only [List.length_append, List.length_cons] at this ⊢
  omega
theorem getQ (P Q S : List Nat) (x t k : Nat) (h : t < Q.length) (hk : k = P.length + 1 + t) : (P ++ x :: (Q ++ S))[k]?.getD 0 = Q[t]?.getD 0 := by
  rw [hk, List.getElem?_append_right (by omega), show P.length + 1 + t - P.length = t + 1 by omega, List.getElem?_cons_succ, List.getElem?_append_left h]
theorem cutA {lt : Nat → Nat → Bool} (hsw : SW lt) {P Q S l : List Nat} {x a b i : Nat} (hl : l = P ++ x :: (Q ++ S)) (ha : P.length = a) (hb : a + 1 + Q.length = b) (hQ : Q.Pairwise (NS lt)) (hbs : Bs (fun h => lt (l[h]?.getD 0) (l[a]?.getD 0)) (a + 1) b i i) :
    P ++ mrg lt [x] Q ++ S = shU P Q S x (i - 1 - a) := by
  obtain ⟨h1, -, h2, h3, h4⟩ := hbs
  have hx : l[a]?.getD 0 = x := by rw [hl, ← ha]; simp
  rw [hx] at h3 h4
  rw [mrg_in hsw hQ x (i - 1 - a) (by omega) ?_ ?_, shU]
  · simp [List.append_assoc]
  · rcases h4 with h | h
    · left; omega
    · by_cases hi : i - 1 - a = Q.length
      · exact Or.inl hi
      · right
        rw [← getQ P Q S x (i - 1 - a) i (by omega) (by omega), ← hl]; exact h
  · rcases h3 with h | h
    · left; omega
    · by_cases hi : i - 1 - a = 0
      · exact Or.inl hi
      · right
        rw [← getQ P Q S x (i - 1 - a - 1) (i - 1) (by omega) (by omega), ← hl]; exact h

end Go.Proofs.Ytmocfnpbofeiiaa

/- The library's stable sort of float32 words (Sym1). -/
namespace Go.Proofs.Ytmocfnpbofeiiaa
set_option linter.unusedSimpArgs false
set_option linter.unusedVariables false
open Go.RowKit

set_option maxRecDepth 4000 in
set_option maxHeartbeats 2000000 in
theorem symAFall_any {g : Nat} (f : Nat → Nat) (B N n a b : Nat) (w0 w : World) (cf : Nat → Nat → Int) (lt : Nat → Nat → Bool) (hsw : SW lt) (hcf : ∀ x y, x < N → y < N → decide (cf x y < 0) = lt x y) (hcl : ClF Try.prog 131 f (some g) N w0 cf) (c : Nat) (P Q S : List Nat) (x : Nat) (l : List Nat) (hl : l = P ++ x :: (Q ++ S)) (hln : l.length = n) (hN : ∀ x ∈ l, x < N)
    (ha : P.length = a) (hb : a + 1 + Q.length = b) (hQ : Q.Pairwise (NS lt)) (hn : n ≤ 4096) (hown : w.ownsRow B 32 1 (.slice (some ⟨g, 0, none⟩) n c) n (wds f l)) (hbl : w0.grownBy w (some g)) :
    Calls Try.prog 150 #[.slice (some ⟨g, 0, none⟩) n c, .int .i64 (a : Int), .int .i64 ((a + 1 : Nat) : Int), .int .i64 (b : Int), .func (.func 131) #[] #[]] w fun e w' => e = .returned (.tuple #[]) ∧ w'.ownsRow B 32 1 (.slice (some ⟨g, 0, none⟩) n c) n (wds f (P ++ mrg lt [x] Q ++ S)) ∧ w0.grownBy w' (some g) ∧ w.grownBy w' (some g) := by
  have hbn : b ≤ n := by rw [← hln, hl]; simp; omega
  obtain ⟨g', hg', hBg, hgl⟩ := own_some hown (by omega)
  obtain rfl : g = g' := by simpa using hg'
  clear hg'
  have HCL := Lib.hid hcl
  have HCF := Lib.hid hcf
  have HL := Lib.hid hln
  have HLL := Lib.hid hl
  have HMN := Lib.hid hN
  have HQ := Lib.hid hQ
  have HA := Lib.hid ha
  have HB := Lib.hid hb
  have hab : a + 1 ≤ b := by omega
  have e1 : IntKind.i64.wrap (((a + 1 : Nat) : Int) - (a : Int)) = 1 := by rw [show ((a + 1 : Nat) : Int) - (a : Int) = 1 by omega]; exact IntWalk.i64_in _ (by omega)
  obtain ⟨m, hm⟩ : ∃ m, m = a + 1 := ⟨_, rfl⟩
  rw [← hm] at e1 ⊢ hab
  have HM := Lib.hid hm
  have ham : a < m := by omega
  clear hcl hcf hln hl hN hQ ha hb hm
  obtain ⟨qq, hqq⟩ : ∃ qq : Nat → Bool, qq = fun h : Nat => lt (l[h]?.getD 0) (l[a]?.getD 0) := ⟨_, rfl⟩
  have HQQ : Hid (∀ h, qq h = lt (l[h]?.getD 0) (l[a]?.getD 0)) := Lib.hid fun h => by rw [hqq]
  have HQL := Lib.hid hqq
  clear hqq
  go_enter Try.func150, Try.ntmps150
  go_wp2
  go_loopw [10, 11] (fun q r wr => ∃ i j : Nat, q = .int .i64 (i : Int) ∧ r = .int .i64 (j : Int) ∧ Bs qq m b i j ∧ wr.ownsRow B 32 1 (.slice (some ⟨g, 0, none⟩) n c) n (wds f l) ∧ w0.grownBy wr (some g) ∧ w.grownBy wr (some g)) (fun q r _ => (intOf r - intOf q).toNat)
  case atStart => exact ⟨m, b, rfl, rfl, Bs.start hab, hown, hbl, World.grownBy.refl _ _⟩
  case round =>
    clear hown hbl
    obtain ⟨i, j, rfl, rfl, hbs, hown, hbl, hg⟩ := hrel
    have HBS := Lib.hid hbs
    obtain ⟨k1, k2, k3, -, -⟩ := hbs
    by_cases hij : i < j
    · obtain ⟨h, hh⟩ : ∃ h, h = (i + j) / 2 := ⟨_, rfl⟩
      have hh1 : i ≤ h := by omega
      have hh2 : h < j := by omega
      have s2 : ((i : Int) + (j : Int)) / 2 = (h : Int) := by omega
      have hijn : i + j ≤ 8192 := by omega
      clear hh
      have c1 := hown.cellAt h (by omega)
      have c2 := hown.cellAt a (by omega)
      rw [wds_get f l _ (by rw [HL.out]; omega)] at c1 c2
      have hx := getNat HMN.out h (by rw [HL.out]; omega)
      have hy := getNat HMN.out a (by rw [HL.out]; omega)
      have hbd : ∀ q, w0.grownBy (wr.drewN q) (some g) := fun q => grown_drewN hbl q
      have HCC := HCL.out
      have hcc : ∀ q, Calls Try.prog 131 #[.float .f32 (f (l[h]?.getD 0)), .float .f32 (f (l[a]?.getD 0))] (wr.drewN q) fun e w' => e = .returned (.int .i64 (cf (l[h]?.getD 0) (l[a]?.getD 0))) ∧ ∃ mq, w' = (wr.drewN q).drewN mq := fun q => HCC _ _ _ (hbd q) hx hy
      clear HCC hbd
      have hk2 := HCF.out _ _ hx hy
      have HUP : Hid (lt (l[h]?.getD 0) (l[a]?.getD 0) = true → Bs qq m b (h + 1) j) := Lib.hid fun hq => HBS.out.up hh1 hh2 ((HQQ.out h).trans hq)
      have HDN : Hid (lt (l[h]?.getD 0) (l[a]?.getD 0) = false → Bs qq m b i h) := Lib.hid fun hq => HBS.out.down hh1 hh2 ((HQQ.out h).trans hq)
      have hhn : (h : Int) < (n : Int) := by omega
      have han : (a : Int) < (n : Int) := by omega
      generalize l[h]?.getD 0 = u at *
      generalize l[a]?.getD 0 = v at *
      generalize cf u v = z at *
      clear HBS
      cases hlt2 : lt u v
      · rw [hlt2] at hk2 HDN
        have HE := Lib.hid (HDN.out rfl)
        clear hlt2 HUP HDN
        go_wp2
        go_quiet ((go_at_call 131; exact Calls.quiet_of (hcc _)))
        go_wp2
        go_roundw
        case rel => exact ⟨i, h, rfl, rfl, HE.out, own_drewN hown _, grown_drewN hbl _, grown_drewN hg _⟩
        case measure => simp only [intOf]; omega
      · rw [hlt2] at hk2 HUP
        have HE := Lib.hid (HUP.out rfl)
        clear hlt2 HUP HDN
        go_wp2
        go_quiet ((go_at_call 131; exact Calls.quiet_of (hcc _)))
        go_wp2
        go_roundw
        case rel => exact ⟨h + 1, j, by go_num, rfl, HE.out, own_drewN hown _, grown_drewN hbl _, grown_drewN hg _⟩
        case measure => simp only [intOf]; omega
    · obtain rfl : i = j := by omega
      clear e1
      go_wp2
      obtain ⟨wo, hwo⟩ : ∃ wo : World, wo = wr := ⟨_, rfl⟩
      rw [← hwo] at hown hbl hg ⊢
      clear hwo wr
      have HCUT : Hid (wds f (P ++ mrg lt [x] Q ++ S) = wds f (shU P Q S x (i - 1 - a))) := Lib.hid (by
        have := HBS.out
        rw [HM.out, HQL.out] at this
        exact congrArg (wds f) (cutA hsw HLL.out HA.out HB.out HQ.out this))
      have hbl0 := hbl
      have H0 : Hid (shU P Q S x 0 = l) := Lib.hid (by rw [HLL.out]; simp [shU])
      obtain ⟨e, he⟩ : ∃ e, e = i - 1 := ⟨_, rfl⟩
      have hae : a ≤ e := by omega
      have heb : e + 1 ≤ b := by omega
      have e3 : IntKind.i64.wrap ((i : Int) - 1) = (e : Int) := by rw [show (i : Int) - 1 = (e : Int) by omega]; exact IntWalk.i64_in _ (by omega)
      rw [← he] at HCUT
      have HQB : Hid (Q.length + m = b) := Lib.hid (by have := HB.out; have := HM.out; omega)
      clear he HBS
      go_loopw [13] (fun q wr => ∃ k : Nat, q = .int .i64 (k : Int) ∧ a ≤ k ∧ k ≤ e ∧ wr.ownsRow B 32 1 (.slice (some ⟨g, 0, none⟩) n c) n (wds f (shU P Q S x (k - a))) ∧ w0.grownBy wr (some g) ∧ w.grownBy wr (some g)) (fun q _ => e - (intOf q).toNat)
      case atStart => exact ⟨a, rfl, Nat.le_refl _, hae, by rw [Nat.sub_self, H0.out]; exact hown, hbl, hg⟩
      case round =>
        clear hown hbl hg hbl0
        obtain ⟨k, rfl, hk1, hk2, hown, hbl, hg⟩ := hrel
        by_cases hke : k < e
        · obtain ⟨k', hk'⟩ : ∃ k', k' = k + 1 := ⟨_, rfl⟩
          have hsc : sw2 (shU P Q S x (k - a)) k k' = shU P Q S x (k' - a) := by
            rw [hk', shU_step P Q S x (k - a) k (by have := HQB.out; have := HM.out; omega) (by have := HA.out; omega), show k + 1 - a = k - a + 1 by omega]
          have hll : (shU P Q S x (k - a)).length = n := by rw [shU_length, ← HLL.out, HL.out]
          have HSC := Lib.hid hsc
          clear hsc
          generalize shU P Q S x (k - a) = L at *
          have c1 := hown.cellAt k (by omega)
          have c2 := hown.cellAt k' (by omega)
          rw [wds_get f L _ (by omega)] at c1 c2
          have f1 := hown.frozenAt k
          have f2 := hown.frozenAt k'
          have HST : Hid (((wr.setCell ⟨g, k, none⟩ (.float .f32 (f (L[k']?.getD 0)))).setCell ⟨g, k', none⟩ (.float .f32 (f (L[k]?.getD 0)))).ownsRow B 32 1 (.slice (some ⟨g, 0, none⟩) n c) n (wds f (sw2 L k k'))) := by
            show World.ownsRow _ _ _ _ _ _ _
            have := ((hown.stored k (.float .f32 (f (L[k']?.getD 0)))).1.stored k' (.float .f32 (f (L[k]?.getD 0)))).1
            unfold sw2
            rw [wds_set f, wds_set f]
            exact this
          have HGS : Hid (wr.grownBy ((wr.setCell ⟨g, k, none⟩ (.float .f32 (f (L[k']?.getD 0)))).setCell ⟨g, k', none⟩ (.float .f32 (f (L[k]?.getD 0)))) (some g)) := by
            show World.grownBy _ _ _
            exact grownBy_trans (hown.stored k _).2 ((hown.stored k _).1.stored k' _).2
          have HGR : Hid (w.grownBy ((wr.setCell ⟨g, k, none⟩ (.float .f32 (f (L[k']?.getD 0)))).setCell ⟨g, k', none⟩ (.float .f32 (f (L[k]?.getD 0)))) (some g)) := by
            show World.grownBy _ _ _
            exact grownBy_trans (grownBy_trans hg (hown.stored k _).2) ((hown.stored k _).1.stored k' _).2
          generalize L[k]?.getD 0 = u at *
          generalize L[k']?.getD 0 = v at *
          have e4 : IntKind.i64.wrap ((k : Int) + 1) = (k' : Int) := by rw [hk']; exact IntWalk.i64_in _ (by omega)
          have g1 : (k : Int) < (n : Int) := by omega
          have g2 : (k' : Int) < (n : Int) := by omega
          have g3 : k' ≤ e := by omega
          have g4 : a ≤ k' := by omega
          have hpq : k ≠ k' := by omega
          have hps : (k : Int) + 1 = (k' : Int) := by omega
          clear hk' hll
          have d1 : (wr.setCell ⟨g, k, none⟩ (.float .f32 (f v))).cell? ⟨g, k', none⟩ = some (.float .f32 (f v)) := (World.cell?_setCell_other _ _ _ _ (fun e => hpq (congrArg Addr.off e))).trans c2
          have d2 : (wr.setCell ⟨g, k', none⟩ (.float .f32 (f u))).cell? ⟨g, k, none⟩ = some (.float .f32 (f u)) := (World.cell?_setCell_other _ _ _ _ (fun e => hpq (congrArg Addr.off e).symm)).trans c1
          go_wp2
          go_region
          go_wp2
          go_roundw
          case rel => exact ⟨k', by go_num, g4, g3, by rw [← HSC.out]; exact own_drew HST.out, grown_drew (grownBy_trans hbl HGS.out), grown_drew HGR.out⟩
          case measure => simp only [intOf]; omega
        · obtain rfl : k = e := by omega
          go_wp2
          exact bodyPost_ret (v := .tuple #[]) (results_none rfl _ _ _) rfl ⟨rfl, by rw [HCUT.out]; exact hown, hbl, hg⟩

end Go.Proofs.Ytmocfnpbofeiiaa
