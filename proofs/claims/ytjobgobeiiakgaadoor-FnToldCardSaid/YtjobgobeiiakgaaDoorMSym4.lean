/- The library's stable sort: one element merged into a sorted part. -/
import Derived.Test.YtjobgobeiiakgaaDoorMSwt
import Derived.Test.YtjobgobeiiakgaaDoorMSrg
namespace Go.Proofs.YtjobgobeiiakgaaDoor
set_option linter.unusedSimpArgs false
set_option linter.unusedVariables false
open Go.RowKit
/-- Where a halving search stands: what q says of the last place left behind and of the first place given up. -/
def Bs (q : Nat → Bool) (lo hi i j : Nat) : Prop := lo ≤ i ∧ i ≤ j ∧ j ≤ hi ∧ (i = lo ∨ q (i - 1) = true) ∧ (j = hi ∨ q j = false)
theorem Bs.start {q : Nat → Bool} {lo hi : Nat} (h : lo ≤ hi) : Bs q lo hi lo hi := ⟨Nat.le_refl _, h, Nat.le_refl _, Or.inl rfl, Or.inl rfl⟩
theorem Bs.up {q : Nat → Bool} {lo hi i j h : Nat} (H : Bs q lo hi i j) (h1 : i ≤ h) (h2 : h < j) (hq : q h = true) : Bs q lo hi (h + 1) j := ⟨by have := H.1; omega, by omega, H.2.2.1, Or.inr hq, H.2.2.2.2⟩
theorem Bs.down {q : Nat → Bool} {lo hi i j h : Nat} (H : Bs q lo hi i j) (h1 : i ≤ h) (h2 : h < j) (hq : q h = false) : Bs q lo hi i h := ⟨H.1, h1, by have := H.2.2.1; omega, H.2.2.2.1, Or.inr hq⟩
theorem half_in {i j : Nat} (h : i < j) : i ≤ (i + j) / 2 ∧ (i + j) / 2 < j := by omega
/-- x moved t places up into Q. -/
def shU (P Q S : List Nat) (x t : Nat) : List Nat := P ++ Q.take t ++ x :: (Q.drop t ++ S)
theorem shU_step (P Q S : List Nat) (x t k : Nat) (h : t < Q.length) (hk : k = P.length + t) : sw2 (shU P Q S x t) k (k + 1) = shU P Q S x (t + 1) := by
  unfold shU
  have hy : Q.drop t = Q[t] :: Q.drop (t + 1) := List.drop_eq_getElem_cons (by omega)
  have ty : Q.take (t + 1) = Q.take t ++ [Q[t]] := List.take_succ_eq_append_getElem (by omega)
  have e := sw2_seg (P ++ Q.take t) [] (Q.drop (t + 1) ++ S) x Q[t] k (k + 1) (by simp; omega) (by simp; omega)
  rw [hy, ty]
  simp only [List.append_assoc, List.cons_append, List.nil_append] at e ⊢
  exact e
theorem shU_length (P Q S : List Nat) (x t : Nat) : (shU P Q S x t).length = (P ++ x :: (Q ++ S)).length := by
  unfold shU
  have := congrArg List.length (List.take_append_drop t Q)
  simp only [List.length_append, List.length_cons] at this ⊢
  omega
theorem getQ (P Q S : List Nat) (x t k : Nat) (h : t < Q.length) (hk : k = P.length + 1 + t) : (P ++ x :: (Q ++ S))[k]?.getD 0 = Q[t]?.getD 0 := by
  rw [hk, List.getElem?_append_right (by omega), show P.length + 1 + t - P.length = t + 1 by omega, List.getElem?_cons_succ, List.getElem?_append_left h]
theorem cutA {lt : Nat → Nat → Bool} (hsw : SW lt) {P Q S l : List Nat} {x a b i : Nat} (hl : l = P ++ x :: (Q ++ S)) (ha : P.length = a) (hb : a + 1 + Q.length = b) (hQ : Q.Pairwise (NS lt)) (hbs : Bs (fun h => lt (l[h]?.getD 0) (l[a]?.getD 0)) (a + 1) b i i) :
    P ++ mrg lt [x] Q ++ S = shU P Q S x (i - 1 - a) := by
  obtain ⟨h1, -, h2, h3, h4⟩ := hbs
  have hx : l[a]?.getD 0 = x := by rw [hl, ← ha]; simp
  rw [hx] at h3 h4
  rw [mrg_in hsw hQ x (i - 1 - a) (by omega) ?_ ?_, shU]
  · simp [List.append_assoc]
  · rcases h4 with h | h
    · left; omega
    · by_cases hi : i - 1 - a = Q.length
      · exact Or.inl hi
      · right
        rw [← getQ P Q S x (i - 1 - a) i (by omega) (by omega), ← hl]; exact h
  · rcases h3 with h | h
    · left; omega
    · by_cases hi : i - 1 - a = 0
      · exact Or.inl hi
      · right
        rw [← getQ P Q S x (i - 1 - a - 1) (i - 1) (by omega) (by omega), ← hl]; exact h

set_option maxRecDepth 4000 in
set_option maxHeartbeats 2000000 in
theorem symATurns_any {g : Nat} (cp : Value) (B N n a b : Nat) (w0 w : World) (cf : Nat → Nat → Int) (lt : Nat → Nat → Bool) (hsw : SW lt) (hcf : ∀ x y, x < N → y < N → decide (cf x y < 0) = lt x y) (hcl : ClG Tryd.prog 52 cp (some g) N w0 cf) (c : Nat) (P Q S : List Nat) (x : Nat) (l : List Nat) (hl : l = P ++ x :: (Q ++ S)) (hln : l.length = n) (hN : ∀ x ∈ l, x < N)
    (ha : P.length = a) (hb : a + 1 + Q.length = b) (hQ : Q.Pairwise (NS lt)) (hn : n ≤ 4096) (hown : w.ownsRow B 2 1 (.slice (some ⟨g, 0, none⟩) n c) n (nats l)) (hbl : w0.grownBy w (some g)) :
    Calls Tryd.prog 87 #[.slice (some ⟨g, 0, none⟩) n c, .int .i64 (a : Int), .int .i64 ((a + 1 : Nat) : Int), .int .i64 (b : Int), .func (.func 52) #[] #[cp]] w fun e w' => e = .returned (.tuple #[]) ∧ w'.ownsRow B 2 1 (.slice (some ⟨g, 0, none⟩) n c) n (nats (P ++ mrg lt [x] Q ++ S)) ∧ w0.grownBy w' (some g) ∧ w.grownBy w' (some g) := by
  have hbn : b ≤ n := by rw [← hln, hl]; simp; omega
  obtain ⟨g', hg', hBg, hgl⟩ := own_some hown (by omega)
  obtain rfl : g = g' := by simpa using hg'
  clear hg'
  have HCL := Lib.hid hcl
  have HCF := Lib.hid hcf
  have HL := Lib.hid hln
  have HLL := Lib.hid hl
  have HMN := Lib.hid hN
  have HQ := Lib.hid hQ
  have HA := Lib.hid ha
  have HB := Lib.hid hb
  have hab : a + 1 ≤ b := by omega
  have e1 : IntKind.i64.wrap (((a + 1 : Nat) : Int) - (a : Int)) = 1 := by rw [show ((a + 1 : Nat) : Int) - (a : Int) = 1 by omega]; exact IntWalk.i64_in _ (by omega)
  obtain ⟨m, hm⟩ : ∃ m, m = a + 1 := ⟨_, rfl⟩
  rw [← hm] at e1 ⊢ hab
  have HM := Lib.hid hm
  have ham : a < m := by omega
  clear hcl hcf hln hl hN hQ ha hb hm
  obtain ⟨qq, hqq⟩ : ∃ qq : Nat → Bool, qq = fun h : Nat => lt (l[h]?.getD 0) (l[a]?.getD 0) := ⟨_, rfl⟩
  have HQQ : Hid (∀ h, qq h = lt (l[h]?.getD 0) (l[a]?.getD 0)) := Lib.hid fun h => by rw [hqq]
  have HQL := Lib.hid hqq
  clear hqq
  go_enter Tryd.func87, Tryd.ntmps87
  go_wp2
  go_loopw [10, 11] (fun q r wr => ∃ i j : Nat, q = .int .i64 (i : Int) ∧ r = .int .i64 (j : Int) ∧ Bs qq m b i j ∧ wr.ownsRow B 2 1 (.slice (some ⟨g, 0, none⟩) n c) n (nats l) ∧ w0.grownBy wr (some g) ∧ w.grownBy wr (some g)) (fun q r _ => (intOf r - intOf q).toNat)
  case atStart => exact ⟨m, b, rfl, rfl, Bs.start hab, hown, hbl, World.grownBy.refl _ _⟩
  case round =>
    clear hown hbl
    obtain ⟨i, j, rfl, rfl, hbs, hown, hbl, hg⟩ := hrel
    have HBS := Lib.hid hbs
    obtain ⟨k1, k2, k3, -, -⟩ := hbs
    by_cases hij : i < j
    · obtain ⟨h, hh⟩ : ∃ h, h = (i + j) / 2 := ⟨_, rfl⟩
      have hh1 : i ≤ h := by omega
      have hh2 : h < j := by omega
      have s2 : ((i : Int) + (j : Int)) / 2 = (h : Int) := by omega
      have hijn : i + j ≤ 8192 := by omega
      clear hh
      have c1 := hown.cellAt h (by omega)
      have c2 := hown.cellAt a (by omega)
      rw [nats_get l _ (by rw [HL.out]; omega)] at c1 c2
      have hx := getNat HMN.out h (by rw [HL.out]; omega)
      have hy := getNat HMN.out a (by rw [HL.out]; omega)
      have hbd : ∀ q, w0.grownBy (wr.drewN q) (some g) := fun q => grown_drewN hbl q
      have HCC := HCL.out
      have hcc : ∀ q, Calls Tryd.prog 52 #[.int .i64 ((l[h]?.getD 0 : Nat) : Int), .int .i64 ((l[a]?.getD 0 : Nat) : Int), cp] (wr.drewN q) fun e w' => e = .returned (.int .i64 (cf (l[h]?.getD 0) (l[a]?.getD 0))) ∧ ∃ mq, w' = (wr.drewN q).drewN mq := fun q => HCC _ _ _ (hbd q) hx hy
      clear HCC hbd
      have hk2 := HCF.out _ _ hx hy
      have HUP : Hid (lt (l[h]?.getD 0) (l[a]?.getD 0) = true → Bs qq m b (h + 1) j) := Lib.hid fun hq => HBS.out.up hh1 hh2 ((HQQ.out h).trans hq)
      have HDN : Hid (lt (l[h]?.getD 0) (l[a]?.getD 0) = false → Bs qq m b i h) := Lib.hid fun hq => HBS.out.down hh1 hh2 ((HQQ.out h).trans hq)
      have hhn : (h : Int) < (n : Int) := by omega
      have han : (a : Int) < (n : Int) := by omega
      generalize l[h]?.getD 0 = u at *
      generalize l[a]?.getD 0 = v at *
      generalize cf u v = z at *
      clear HBS
      cases hlt2 : lt u v
      · rw [hlt2] at hk2 HDN
        have HE := Lib.hid (HDN.out rfl)
        clear hlt2 HUP HDN
        go_wp2
        go_quiet ((go_at_call 52; exact Calls.quiet_of (hcc _)))
        go_wp2
        go_roundw
        case rel => exact ⟨i, h, rfl, rfl, HE.out, own_drewN hown _, grown_drewN hbl _, grown_drewN hg _⟩
        case measure => simp only [intOf]; omega
      · rw [hlt2] at hk2 HUP
        have HE := Lib.hid (HUP.out rfl)
        clear hlt2 HUP HDN
        go_wp2
        go_quiet ((go_at_call 52; exact Calls.quiet_of (hcc _)))
        go_wp2
        go_roundw
        case rel => exact ⟨h + 1, j, by go_num, rfl, HE.out, own_drewN hown _, grown_drewN hbl _, grown_drewN hg _⟩
        case measure => simp only [intOf]; omega
    · obtain rfl : i = j := by omega
      clear e1
      go_wp2
      obtain ⟨wo, hwo⟩ : ∃ wo : World, wo = wr := ⟨_, rfl⟩
      rw [← hwo] at hown hbl hg ⊢
      clear hwo wr
      have HCUT : Hid (nats (P ++ mrg lt [x] Q ++ S) = nats (shU P Q S x (i - 1 - a))) := Lib.hid (by
        have := HBS.out
        rw [HM.out, HQL.out] at this
        exact congrArg nats (cutA hsw HLL.out HA.out HB.out HQ.out this))
      have hbl0 := hbl
      have H0 : Hid (shU P Q S x 0 = l) := Lib.hid (by rw [HLL.out]; simp [shU])
      obtain ⟨e, he⟩ : ∃ e, e = i - 1 := ⟨_, rfl⟩
      have hae : a ≤ e := by omega
      have heb : e + 1 ≤ b := by omega
      have e3 : IntKind.i64.wrap ((i : Int) - 1) = (e : Int) := by rw [show (i : Int) - 1 = (e : Int) by omega]; exact IntWalk.i64_in _ (by omega)
      rw [← he] at HCUT
      have HQB : Hid (Q.length + m = b) := Lib.hid (by have := HB.out; have := HM.out; omega)
      clear he HBS
      go_loopw [13] (fun q wr => ∃ k : Nat, q = .int .i64 (k : Int) ∧ a ≤ k ∧ k ≤ e ∧ wr.ownsRow B 2 1 (.slice (some ⟨g, 0, none⟩) n c) n (nats (shU P Q S x (k - a))) ∧ w0.grownBy wr (some g) ∧ w.grownBy wr (some g)) (fun q _ => e - (intOf q).toNat)
      case atStart => exact ⟨a, rfl, Nat.le_refl _, hae, by rw [Nat.sub_self, H0.out]; exact hown, hbl, hg⟩
      case round =>
        clear hown hbl hg hbl0
        obtain ⟨k, rfl, hk1, hk2, hown, hbl, hg⟩ := hrel
        by_cases hke : k < e
        · obtain ⟨k', hk'⟩ : ∃ k', k' = k + 1 := ⟨_, rfl⟩
          have hsc : sw2 (shU P Q S x (k - a)) k k' = shU P Q S x (k' - a) := by
            rw [hk', shU_step P Q S x (k - a) k (by have := HQB.out; have := HM.out; omega) (by have := HA.out; omega), show k + 1 - a = k - a + 1 by omega]
          have hll : (shU P Q S x (k - a)).length = n := by rw [shU_length, ← HLL.out, HL.out]
          have HSC := Lib.hid hsc
          clear hsc
          generalize shU P Q S x (k - a) = L at *
          have c1 := hown.cellAt k (by omega)
          have c2 := hown.cellAt k' (by omega)
          rw [nats_get L _ (by omega)] at c1 c2
          have f1 := hown.frozenAt k
          have f2 := hown.frozenAt k'
          have HST : Hid (((wr.setCell ⟨g, k, none⟩ (.int .i64 ((L[k']?.getD 0 : Nat) : Int))).setCell ⟨g, k', none⟩ (.int .i64 ((L[k]?.getD 0 : Nat) : Int))).ownsRow B 2 1 (.slice (some ⟨g, 0, none⟩) n c) n (nats (sw2 L k k'))) := by
            show World.ownsRow _ _ _ _ _ _ _
            have := ((hown.stored k (.int .i64 ((L[k']?.getD 0 : Nat) : Int))).1.stored k' (.int .i64 ((L[k]?.getD 0 : Nat) : Int))).1
            unfold sw2
            rw [nats_set, nats_set]
            exact this
          have HGS : Hid (wr.grownBy ((wr.setCell ⟨g, k, none⟩ (.int .i64 ((L[k']?.getD 0 : Nat) : Int))).setCell ⟨g, k', none⟩ (.int .i64 ((L[k]?.getD 0 : Nat) : Int))) (some g)) := by
            show World.grownBy _ _ _
            exact grownBy_trans (hown.stored k _).2 ((hown.stored k _).1.stored k' _).2
          have HGR : Hid (w.grownBy ((wr.setCell ⟨g, k, none⟩ (.int .i64 ((L[k']?.getD 0 : Nat) : Int))).setCell ⟨g, k', none⟩ (.int .i64 ((L[k]?.getD 0 : Nat) : Int))) (some g)) := by
            show World.grownBy _ _ _
            exact grownBy_trans (grownBy_trans hg (hown.stored k _).2) ((hown.stored k _).1.stored k' _).2
          generalize L[k]?.getD 0 = u at *
          generalize L[k']?.getD 0 = v at *
          have e4 : IntKind.i64.wrap ((k : Int) + 1) = (k' : Int) := by rw [hk']; exact IntWalk.i64_in _ (by omega)
          have g1 : (k : Int) < (n : Int) := by omega
          have g2 : (k' : Int) < (n : Int) := by omega
          have g3 : k' ≤ e := by omega
          have g4 : a ≤ k' := by omega
          have hpq : k ≠ k' := by omega
          have hps : (k : Int) + 1 = (k' : Int) := by omega
          clear hk' hll
          have d1 : (wr.setCell ⟨g, k, none⟩ (.int .i64 (v : Int))).cell? ⟨g, k', none⟩ = some (.int .i64 (v : Int)) := (World.cell?_setCell_other _ _ _ _ (fun e => hpq (congrArg Addr.off e))).trans c2
          have d2 : (wr.setCell ⟨g, k', none⟩ (.int .i64 (u : Int))).cell? ⟨g, k, none⟩ = some (.int .i64 (u : Int)) := (World.cell?_setCell_other _ _ _ _ (fun e => hpq (congrArg Addr.off e).symm)).trans c1
          go_wp2
          go_region
          go_wp2
          go_roundw
          case rel => exact ⟨k', by go_num, g4, g3, by rw [← HSC.out]; exact own_drew HST.out, grown_drew (grownBy_trans hbl HGS.out), grown_drew HGR.out⟩
          case measure => simp only [intOf]; omega
        · obtain rfl : k = e := by omega
          go_wp2
          exact bodyPost_ret (v := .tuple #[]) (results_none rfl _ _ _) rfl ⟨rfl, by rw [HCUT.out]; exact hown, hbl, hg⟩

set_option maxRecDepth 4000 in
set_option maxHeartbeats 2000000 in
theorem symABack_any {g : Nat} (cp : Value) (B N n a b : Nat) (w0 w : World) (cf : Nat → Nat → Int) (lt : Nat → Nat → Bool) (hsw : SW lt) (hcf : ∀ x y, x < N → y < N → decide (cf x y < 0) = lt x y) (hcl : ClG Tryd.prog 54 cp (some g) N w0 cf) (c : Nat) (P Q S : List Nat) (x : Nat) (l : List Nat) (hl : l = P ++ x :: (Q ++ S)) (hln : l.length = n) (hN : ∀ x ∈ l, x < N)
    (ha : P.length = a) (hb : a + 1 + Q.length = b) (hQ : Q.Pairwise (NS lt)) (hn : n ≤ 4096) (hown : w.ownsRow B 2 1 (.slice (some ⟨g, 0, none⟩) n c) n (nats l)) (hbl : w0.grownBy w (some g)) :
    Calls Tryd.prog 87 #[.slice (some ⟨g, 0, none⟩) n c, .int .i64 (a : Int), .int .i64 ((a + 1 : Nat) : Int), .int .i64 (b : Int), .func (.func 54) #[] #[cp]] w fun e w' => e = .returned (.tuple #[]) ∧ w'.ownsRow B 2 1 (.slice (some ⟨g, 0, none⟩) n c) n (nats (P ++ mrg lt [x] Q ++ S)) ∧ w0.grownBy w' (some g) ∧ w.grownBy w' (some g) := by
  have hbn : b ≤ n := by rw [← hln, hl]; simp; omega
  obtain ⟨g', hg', hBg, hgl⟩ := own_some hown (by omega)
  obtain rfl : g = g' := by simpa using hg'
  clear hg'
  have HCL := Lib.hid hcl
  have HCF := Lib.hid hcf
  have HL := Lib.hid hln
  have HLL := Lib.hid hl
  have HMN := Lib.hid hN
  have HQ := Lib.hid hQ
  have HA := Lib.hid ha
  have HB := Lib.hid hb
  have hab : a + 1 ≤ b := by omega
  have e1 : IntKind.i64.wrap (((a + 1 : Nat) : Int) - (a : Int)) = 1 := by rw [show ((a + 1 : Nat) : Int) - (a : Int) = 1 by omega]; exact IntWalk.i64_in _ (by omega)
  obtain ⟨m, hm⟩ : ∃ m, m = a + 1 := ⟨_, rfl⟩
  rw [← hm] at e1 ⊢ hab
  have HM := Lib.hid hm
  have ham : a < m := by omega
  clear hcl hcf hln hl hN hQ ha hb hm
  obtain ⟨qq, hqq⟩ : ∃ qq : Nat → Bool, qq = fun h : Nat => lt (l[h]?.getD 0) (l[a]?.getD 0) := ⟨_, rfl⟩
  have HQQ : Hid (∀ h, qq h = lt (l[h]?.getD 0) (l[a]?.getD 0)) := Lib.hid fun h => by rw [hqq]
  have HQL := Lib.hid hqq
  clear hqq
  go_enter Tryd.func87, Tryd.ntmps87
  go_wp2
  go_loopw [10, 11] (fun q r wr => ∃ i j : Nat, q = .int .i64 (i : Int) ∧ r = .int .i64 (j : Int) ∧ Bs qq m b i j ∧ wr.ownsRow B 2 1 (.slice (some ⟨g, 0, none⟩) n c) n (nats l) ∧ w0.grownBy wr (some g) ∧ w.grownBy wr (some g)) (fun q r _ => (intOf r - intOf q).toNat)
  case atStart => exact ⟨m, b, rfl, rfl, Bs.start hab, hown, hbl, World.grownBy.refl _ _⟩
  case round =>
    clear hown hbl
    obtain ⟨i, j, rfl, rfl, hbs, hown, hbl, hg⟩ := hrel
    have HBS := Lib.hid hbs
    obtain ⟨k1, k2, k3, -, -⟩ := hbs
    by_cases hij : i < j
    · obtain ⟨h, hh⟩ : ∃ h, h = (i + j) / 2 := ⟨_, rfl⟩
      have hh1 : i ≤ h := by omega
      have hh2 : h < j := by omega
      have s2 : ((i : Int) + (j : Int)) / 2 = (h : Int) := by omega
      have hijn : i + j ≤ 8192 := by omega
      clear hh
      have c1 := hown.cellAt h (by omega)
      have c2 := hown.cellAt a (by omega)
      rw [nats_get l _ (by rw [HL.out]; omega)] at c1 c2
      have hx := getNat HMN.out h (by rw [HL.out]; omega)
      have hy := getNat HMN.out a (by rw [HL.out]; omega)
      have hbd : ∀ q, w0.grownBy (wr.drewN q) (some g) := fun q => grown_drewN hbl q
      have HCC := HCL.out
      have hcc : ∀ q, Calls Tryd.prog 54 #[.int .i64 ((l[h]?.getD 0 : Nat) : Int), .int .i64 ((l[a]?.getD 0 : Nat) : Int), cp] (wr.drewN q) fun e w' => e = .returned (.int .i64 (cf (l[h]?.getD 0) (l[a]?.getD 0))) ∧ ∃ mq, w' = (wr.drewN q).drewN mq := fun q => HCC _ _ _ (hbd q) hx hy
      clear HCC hbd
      have hk2 := HCF.out _ _ hx hy
      have HUP : Hid (lt (l[h]?.getD 0) (l[a]?.getD 0) = true → Bs qq m b (h + 1) j) := Lib.hid fun hq => HBS.out.up hh1 hh2 ((HQQ.out h).trans hq)
      have HDN : Hid (lt (l[h]?.getD 0) (l[a]?.getD 0) = false → Bs qq m b i h) := Lib.hid fun hq => HBS.out.down hh1 hh2 ((HQQ.out h).trans hq)
      have hhn : (h : Int) < (n : Int) := by omega
      have han : (a : Int) < (n : Int) := by omega
      generalize l[h]?.getD 0 = u at *
      generalize l[a]?.getD 0 = v at *
      generalize cf u v = z at *
      clear HBS
      cases hlt2 : lt u v
      · rw [hlt2] at hk2 HDN
        have HE := Lib.hid (HDN.out rfl)
        clear hlt2 HUP HDN
        go_wp2
        go_quiet ((go_at_call 54; exact Calls.quiet_of (hcc _)))
        go_wp2
        go_roundw
        case rel => exact ⟨i, h, rfl, rfl, HE.out, own_drewN hown _, grown_drewN hbl _, grown_drewN hg _⟩
        case measure => simp only [intOf]; omega
      · rw [hlt2] at hk2 HUP
        have HE := Lib.hid (HUP.out rfl)
        clear hlt2 HUP HDN
        go_wp2
        go_quiet ((go_at_call 54; exact Calls.quiet_of (hcc _)))
        go_wp2
        go_roundw
        case rel => exact ⟨h + 1, j, by go_num, rfl, HE.out, own_drewN hown _, grown_drewN hbl _, grown_drewN hg _⟩
        case measure => simp only [intOf]; omega
    · obtain rfl : i = j := by omega
      clear e1
      go_wp2
      obtain ⟨wo, hwo⟩ : ∃ wo : World, wo = wr := ⟨_, rfl⟩
      rw [← hwo] at hown hbl hg ⊢
      clear hwo wr
      have HCUT : Hid (nats (P ++ mrg lt [x] Q ++ S) = nats (shU P Q S x (i - 1 - a))) := Lib.hid (by
        have := HBS.out
        rw [HM.out, HQL.out] at this
        exact congrArg nats (cutA hsw HLL.out HA.out HB.out HQ.out this))
      have hbl0 := hbl
      have H0 : Hid (shU P Q S x 0 = l) := Lib.hid (by rw [HLL.out]; simp [shU])
      obtain ⟨e, he⟩ : ∃ e, e = i - 1 := ⟨_, rfl⟩
      have hae : a ≤ e := by omega
      have heb : e + 1 ≤ b := by omega
      have e3 : IntKind.i64.wrap ((i : Int) - 1) = (e : Int) := by rw [show (i : Int) - 1 = (e : Int) by omega]; exact IntWalk.i64_in _ (by omega)
      rw [← he] at HCUT
      have HQB : Hid (Q.length + m = b) := Lib.hid (by have := HB.out; have := HM.out; omega)
      clear he HBS
      go_loopw [13] (fun q wr => ∃ k : Nat, q = .int .i64 (k : Int) ∧ a ≤ k ∧ k ≤ e ∧ wr.ownsRow B 2 1 (.slice (some ⟨g, 0, none⟩) n c) n (nats (shU P Q S x (k - a))) ∧ w0.grownBy wr (some g) ∧ w.grownBy wr (some g)) (fun q _ => e - (intOf q).toNat)
      case atStart => exact ⟨a, rfl, Nat.le_refl _, hae, by rw [Nat.sub_self, H0.out]; exact hown, hbl, hg⟩
      case round =>
        clear hown hbl hg hbl0
        obtain ⟨k, rfl, hk1, hk2, hown, hbl, hg⟩ := hrel
        by_cases hke : k < e
        · obtain ⟨k', hk'⟩ : ∃ k', k' = k + 1 := ⟨_, rfl⟩
          have hsc : sw2 (shU P Q S x (k - a)) k k' = shU P Q S x (k' - a) := by
            rw [hk', shU_step P Q S x (k - a) k (by have := HQB.out; have := HM.out; omega) (by have := HA.out; omega), show k + 1 - a = k - a + 1 by omega]
          have hll : (shU P Q S x (k - a)).length = n := by rw [shU_length, ← HLL.out, HL.out]
          have HSC := Lib.hid hsc
          clear hsc
          generalize shU P Q S x (k - a) = L at *
          have c1 := hown.cellAt k (by omega)
          have c2 := hown.cellAt k' (by omega)
          rw [nats_get L _ (by omega)] at c1 c2
          have f1 := hown.frozenAt k
          have f2 := hown.frozenAt k'
          have HST : Hid (((wr.setCell ⟨g, k, none⟩ (.int .i64 ((L[k']?.getD 0 : Nat) : Int))).setCell ⟨g, k', none⟩ (.int .i64 ((L[k]?.getD 0 : Nat) : Int))).ownsRow B 2 1 (.slice (some ⟨g, 0, none⟩) n c) n (nats (sw2 L k k'))) := by
            show World.ownsRow _ _ _ _ _ _ _
            have := ((hown.stored k (.int .i64 ((L[k']?.getD 0 : Nat) : Int))).1.stored k' (.int .i64 ((L[k]?.getD 0 : Nat) : Int))).1
            unfold sw2
            rw [nats_set, nats_set]
            exact this
          have HGS : Hid (wr.grownBy ((wr.setCell ⟨g, k, none⟩ (.int .i64 ((L[k']?.getD 0 : Nat) : Int))).setCell ⟨g, k', none⟩ (.int .i64 ((L[k]?.getD 0 : Nat) : Int))) (some g)) := by
            show World.grownBy _ _ _
            exact grownBy_trans (hown.stored k _).2 ((hown.stored k _).1.stored k' _).2
          have HGR : Hid (w.grownBy ((wr.setCell ⟨g, k, none⟩ (.int .i64 ((L[k']?.getD 0 : Nat) : Int))).setCell ⟨g, k', none⟩ (.int .i64 ((L[k]?.getD 0 : Nat) : Int))) (some g)) := by
            show World.grownBy _ _ _
            exact grownBy_trans (grownBy_trans hg (hown.stored k _).2) ((hown.stored k _).1.stored k' _).2
          generalize L[k]?.getD 0 = u at *
          generalize L[k']?.getD 0 = v at *
          have e4 : IntKind.i64.wrap ((k : Int) + 1) = (k' : Int) := by rw [hk']; exact IntWalk.i64_in _ (by omega)
          have g1 : (k : Int) < (n : Int) := by omega
          have g2 : (k' : Int) < (n : Int) := by omega
          have g3 : k' ≤ e := by omega
          have g4 : a ≤ k' := by omega
          have hpq : k ≠ k' := by omega
          have hps : (k : Int) + 1 = (k' : Int) := by omega
          clear hk' hll
          have d1 : (wr.setCell ⟨g, k, none⟩ (.int .i64 (v : Int))).cell? ⟨g, k', none⟩ = some (.int .i64 (v : Int)) := (World.cell?_setCell_other _ _ _ _ (fun e => hpq (congrArg Addr.off e))).trans c2
          have d2 : (wr.setCell ⟨g, k', none⟩ (.int .i64 (u : Int))).cell? ⟨g, k, none⟩ = some (.int .i64 (u : Int)) := (World.cell?_setCell_other _ _ _ _ (fun e => hpq (congrArg Addr.off e).symm)).trans c1
          go_wp2
          go_region
          go_wp2
          go_roundw
          case rel => exact ⟨k', by go_num, g4, g3, by rw [← HSC.out]; exact own_drew HST.out, grown_drew (grownBy_trans hbl HGS.out), grown_drew HGR.out⟩
          case measure => simp only [intOf]; omega
        · obtain rfl : k = e := by omega
          go_wp2
          exact bodyPost_ret (v := .tuple #[]) (results_none rfl _ _ _) rfl ⟨rfl, by rw [HCUT.out]; exact hown, hbl, hg⟩

end Go.Proofs.YtjobgobeiiakgaaDoor

/- The library's stable sort: one element merged into the sorted part ahead of it. -/
namespace Go.Proofs.YtjobgobeiiakgaaDoor
set_option linter.unusedSimpArgs false
set_option linter.unusedVariables false
open Go.RowKit
theorem sw2_comm (l : List Nat) (i j : Nat) (h : i ≠ j) : sw2 l i j = sw2 l j i := by unfold sw2; rw [List.set_comm _ _ h]
theorem shD_step (P Q S : List Nat) (x t k : Nat) (h : t < Q.length) (hk : k = P.length + t) : sw2 (shU P Q S x (t + 1)) (k + 1) k = shU P Q S x t := by
  rw [sw2_comm _ _ _ (by omega)]
  unfold shU
  have hy : Q.drop t = Q[t] :: Q.drop (t + 1) := List.drop_eq_getElem_cons (by omega)
  have ty : Q.take (t + 1) = Q.take t ++ [Q[t]] := List.take_succ_eq_append_getElem (by omega)
  have e := sw2_seg (P ++ Q.take t) [] (Q.drop (t + 1) ++ S) Q[t] x k (k + 1) (by simp; omega) (by simp; omega)
  rw [hy, ty]
  simp only [List.append_assoc, List.cons_append, List.nil_append] at e ⊢
  exact e
theorem getB (P Q S : List Nat) (x t k : Nat) (h : t < Q.length) (hk : k = P.length + t) : (P ++ (Q ++ x :: S))[k]?.getD 0 = Q[t]?.getD 0 := by
  rw [hk, List.getElem?_append_right (by omega), show P.length + t - P.length = t by omega, List.getElem?_append_left h]
theorem cutB {lt : Nat → Nat → Bool} (hsw : SW lt) {P Q S l : List Nat} {x a m i : Nat} (hl : l = P ++ (Q ++ x :: S)) (ha : P.length = a) (hm : a + Q.length = m) (hQ : Q.Pairwise (NS lt)) (hbs : Bs (fun h => !(lt (l[m]?.getD 0) (l[h]?.getD 0))) a m i i) :
    P ++ mrg lt Q [x] ++ S = shU P Q S x (i - a) := by
  obtain ⟨h1, -, h2, h3, h4⟩ := hbs
  have hx : l[m]?.getD 0 = x := by
    rw [hl, List.getElem?_append_right (by omega), List.getElem?_append_right (by omega), show m - P.length - Q.length = 0 by omega]; rfl
  rw [hx] at h3 h4
  rw [mrg_end hsw hQ x (i - a) (by omega) ?_ ?_, shU]
  · simp [List.append_assoc]
  · rcases h4 with h | h
    · left; omega
    · by_cases hi : i - a = Q.length
      · exact Or.inl hi
      · right
        rw [← getB P Q S x (i - a) i (by omega) (by omega), ← hl]; simpa using h
  · rcases h3 with h | h
    · left; omega
    · by_cases hi : i - a = 0
      · exact Or.inl hi
      · right
        rw [← getB P Q S x (i - a - 1) (i - 1) (by omega) (by omega), ← hl]; simpa using h

set_option maxRecDepth 4000 in
set_option maxHeartbeats 2000000 in
theorem symBTurns_any {g : Nat} (cp : Value) (B N n a m : Nat) (w0 w : World) (cf : Nat → Nat → Int) (lt : Nat → Nat → Bool) (hsw : SW lt) (hcf : ∀ x y, x < N → y < N → decide (cf x y < 0) = lt x y) (hcl : ClG Tryd.prog 52 cp (some g) N w0 cf) (c : Nat) (P Q S : List Nat) (x : Nat) (l : List Nat) (hl : l = P ++ (Q ++ x :: S)) (hln : l.length = n) (hN : ∀ x ∈ l, x < N)
    (ha : P.length = a) (hb : a + Q.length = m) (h2 : 2 ≤ Q.length) (hQ : Q.Pairwise (NS lt)) (hn : n ≤ 4096) (hown : w.ownsRow B 2 1 (.slice (some ⟨g, 0, none⟩) n c) n (nats l)) (hbl : w0.grownBy w (some g)) :
    Calls Tryd.prog 87 #[.slice (some ⟨g, 0, none⟩) n c, .int .i64 (a : Int), .int .i64 (m : Int), .int .i64 ((m + 1 : Nat) : Int), .func (.func 52) #[] #[cp]] w fun e w' => e = .returned (.tuple #[]) ∧ w'.ownsRow B 2 1 (.slice (some ⟨g, 0, none⟩) n c) n (nats (P ++ mrg lt Q [x] ++ S)) ∧ w0.grownBy w' (some g) ∧ w.grownBy w' (some g) := by
  have hbn : m + 1 ≤ n := by rw [← hln, hl]; simp; omega
  obtain ⟨g', hg', hBg, hgl⟩ := own_some hown (by omega)
  obtain rfl : g = g' := by simpa using hg'
  clear hg'
  have HCL := Lib.hid hcl
  have HCF := Lib.hid hcf
  have HL := Lib.hid hln
  have HLL := Lib.hid hl
  have HMN := Lib.hid hN
  have HQ := Lib.hid hQ
  have HA := Lib.hid ha
  have HB := Lib.hid hb
  have ham : a + 2 ≤ m := by omega
  obtain ⟨d, hd⟩ : ∃ d, d = m - a := ⟨_, rfl⟩
  have e1 : IntKind.i64.wrap ((m : Int) - (a : Int)) = (d : Int) := by rw [hd, Int.ofNat_sub (by omega)]; exact IntWalk.i64_in _ (by omega)
  have n1 : ((d : Int) == 1) = false := beq_false_of_ne (by omega)
  clear hd
  obtain ⟨b, hm⟩ : ∃ b, b = m + 1 := ⟨_, rfl⟩
  have e2 : IntKind.i64.wrap ((b : Int) - (m : Int)) = 1 := by rw [show (b : Int) - (m : Int) = 1 by omega]; exact IntWalk.i64_in _ (by omega)
  rw [← hm] at hbn ⊢
  have hmb : m < b := by omega
  have hab : a ≤ m := by omega
  clear hcl hcf hln hl hN hQ ha hb hm h2
  obtain ⟨qq, hqq⟩ : ∃ qq : Nat → Bool, qq = fun h : Nat => !(lt (l[m]?.getD 0) (l[h]?.getD 0)) := ⟨_, rfl⟩
  have HQQ : Hid (∀ h, qq h = !(lt (l[m]?.getD 0) (l[h]?.getD 0))) := Lib.hid fun h => by rw [hqq]
  have HQL := Lib.hid hqq
  clear hqq
  go_enter Tryd.func87, Tryd.ntmps87
  go_wp2
  go_loopw [14, 15] (fun q r wr => ∃ i j : Nat, q = .int .i64 (i : Int) ∧ r = .int .i64 (j : Int) ∧ Bs qq a m i j ∧ wr.ownsRow B 2 1 (.slice (some ⟨g, 0, none⟩) n c) n (nats l) ∧ w0.grownBy wr (some g) ∧ w.grownBy wr (some g)) (fun q r _ => (intOf r - intOf q).toNat)
  case atStart => exact ⟨a, m, rfl, rfl, Bs.start hab, hown, hbl, World.grownBy.refl _ _⟩
  case round =>
    clear hown hbl
    obtain ⟨i, j, rfl, rfl, hbs, hown, hbl, hg⟩ := hrel
    have HBS := Lib.hid hbs
    obtain ⟨k1, k2, k3, -, -⟩ := hbs
    by_cases hij : i < j
    · obtain ⟨h, hh⟩ : ∃ h, h = (i + j) / 2 := ⟨_, rfl⟩
      have hh1 : i ≤ h := by omega
      have hh2 : h < j := by omega
      have s2 : ((i : Int) + (j : Int)) / 2 = (h : Int) := by omega
      have hijn : i + j ≤ 8192 := by omega
      clear hh
      have c1 := hown.cellAt h (by omega)
      have c2 := hown.cellAt m (by omega)
      rw [nats_get l _ (by rw [HL.out]; omega)] at c1 c2
      have hy := getNat HMN.out h (by rw [HL.out]; omega)
      have hx := getNat HMN.out m (by rw [HL.out]; omega)
      have hbd : ∀ q, w0.grownBy (wr.drewN q) (some g) := fun q => grown_drewN hbl q
      have HCC := HCL.out
      have hcc : ∀ q, Calls Tryd.prog 52 #[.int .i64 ((l[m]?.getD 0 : Nat) : Int), .int .i64 ((l[h]?.getD 0 : Nat) : Int), cp] (wr.drewN q) fun e w' => e = .returned (.int .i64 (cf (l[m]?.getD 0) (l[h]?.getD 0))) ∧ ∃ mq, w' = (wr.drewN q).drewN mq := fun q => HCC _ _ _ (hbd q) hx hy
      clear HCC hbd
      have hk2 := HCF.out _ _ hx hy
      have HUP : Hid (lt (l[m]?.getD 0) (l[h]?.getD 0) = false → Bs qq a m (h + 1) j) := Lib.hid fun hq => HBS.out.up hh1 hh2 ((HQQ.out h).trans (by rw [hq]; rfl))
      have HDN : Hid (lt (l[m]?.getD 0) (l[h]?.getD 0) = true → Bs qq a m i h) := Lib.hid fun hq => HBS.out.down hh1 hh2 ((HQQ.out h).trans (by rw [hq]; rfl))
      have hhn : (h : Int) < (n : Int) := by omega
      have han : (m : Int) < (n : Int) := by omega
      generalize l[m]?.getD 0 = u at *
      generalize l[h]?.getD 0 = v at *
      generalize cf u v = z at *
      clear HBS
      cases hlt2 : lt u v
      · rw [hlt2] at hk2 HUP
        have HE := Lib.hid (HUP.out rfl)
        clear hlt2 HUP HDN
        go_wp2
        go_quiet ((go_at_call 52; exact Calls.quiet_of (hcc _)))
        go_wp2
        go_roundw
        case rel => exact ⟨h + 1, j, by go_num, rfl, HE.out, own_drewN hown _, grown_drewN hbl _, grown_drewN hg _⟩
        case measure => simp only [intOf]; omega
      · rw [hlt2] at hk2 HDN
        have HE := Lib.hid (HDN.out rfl)
        clear hlt2 HUP HDN
        go_wp2
        go_quiet ((go_at_call 52; exact Calls.quiet_of (hcc _)))
        go_wp2
        go_roundw
        case rel => exact ⟨i, h, rfl, rfl, HE.out, own_drewN hown _, grown_drewN hbl _, grown_drewN hg _⟩
        case measure => simp only [intOf]; omega
    · obtain rfl : i = j := by omega
      clear e1
      go_wp2
      obtain ⟨wo, hwo⟩ : ∃ wo : World, wo = wr := ⟨_, rfl⟩
      rw [← hwo] at hown hbl hg ⊢
      clear hwo wr
      have HCUT : Hid (nats (P ++ mrg lt Q [x] ++ S) = nats (shU P Q S x (i - a))) := Lib.hid (by
        have := HBS.out
        rw [HQL.out] at this
        exact congrArg nats (cutB hsw HLL.out HA.out HB.out HQ.out this))
      have hbl0 := hbl
      have H0 : Hid (shU P Q S x (m - a) = l) := Lib.hid (by rw [HLL.out, show m - a = Q.length by have := HB.out; omega]; simp [shU])
      have him : i ≤ m := k3
      have HQB : Hid (a + Q.length = m) := Lib.hid HB.out
      clear HBS
      go_loopw [17] (fun q wr => ∃ k : Nat, q = .int .i64 (k : Int) ∧ i ≤ k ∧ k ≤ m ∧ wr.ownsRow B 2 1 (.slice (some ⟨g, 0, none⟩) n c) n (nats (shU P Q S x (k - a))) ∧ w0.grownBy wr (some g) ∧ w.grownBy wr (some g)) (fun q _ => (intOf q).toNat)
      case atStart => exact ⟨m, rfl, him, Nat.le_refl _, by rw [H0.out]; exact hown, hbl, hg⟩
      case round =>
        clear hown hbl hg hbl0
        obtain ⟨k, rfl, hk1, hk2, hown, hbl, hg⟩ := hrel
        by_cases hke : i < k
        · obtain ⟨k', hk'⟩ : ∃ k', k = k' + 1 := ⟨k - 1, by omega⟩
          have hsc : sw2 (shU P Q S x (k - a)) k k' = shU P Q S x (k' - a) := by
            rw [hk', show k' + 1 - a = k' - a + 1 by omega, shD_step P Q S x (k' - a) k' (by have := HQB.out; omega) (by have := HA.out; omega)]
          have hll : (shU P Q S x (k - a)).length = n := by rw [← HL.out, ← H0.out, shU_length, shU_length]
          have HSC := Lib.hid hsc
          clear hsc
          generalize shU P Q S x (k - a) = L at *
          have c1 := hown.cellAt k (by omega)
          have c2 := hown.cellAt k' (by omega)
          rw [nats_get L _ (by omega)] at c1 c2
          have f1 := hown.frozenAt k
          have f2 := hown.frozenAt k'
          have HST : Hid (((wr.setCell ⟨g, k, none⟩ (.int .i64 ((L[k']?.getD 0 : Nat) : Int))).setCell ⟨g, k', none⟩ (.int .i64 ((L[k]?.getD 0 : Nat) : Int))).ownsRow B 2 1 (.slice (some ⟨g, 0, none⟩) n c) n (nats (sw2 L k k'))) := by
            show World.ownsRow _ _ _ _ _ _ _
            have := ((hown.stored k (.int .i64 ((L[k']?.getD 0 : Nat) : Int))).1.stored k' (.int .i64 ((L[k]?.getD 0 : Nat) : Int))).1
            unfold sw2
            rw [nats_set, nats_set]
            exact this
          have HGS : Hid (wr.grownBy ((wr.setCell ⟨g, k, none⟩ (.int .i64 ((L[k']?.getD 0 : Nat) : Int))).setCell ⟨g, k', none⟩ (.int .i64 ((L[k]?.getD 0 : Nat) : Int))) (some g)) := by
            show World.grownBy _ _ _
            exact grownBy_trans (hown.stored k _).2 ((hown.stored k _).1.stored k' _).2
          have HGR : Hid (w.grownBy ((wr.setCell ⟨g, k, none⟩ (.int .i64 ((L[k']?.getD 0 : Nat) : Int))).setCell ⟨g, k', none⟩ (.int .i64 ((L[k]?.getD 0 : Nat) : Int))) (some g)) := by
            show World.grownBy _ _ _
            exact grownBy_trans (grownBy_trans hg (hown.stored k _).2) ((hown.stored k _).1.stored k' _).2
          generalize L[k]?.getD 0 = u at *
          generalize L[k']?.getD 0 = v at *
          have e4 : IntKind.i64.wrap ((k : Int) - 1) = (k' : Int) := by rw [show (k : Int) - 1 = (k' : Int) by omega]; exact IntWalk.i64_in _ (by omega)
          have g1 : (k : Int) < (n : Int) := by omega
          have g2 : (k' : Int) < (n : Int) := by omega
          have g3 : k' ≤ m := by omega
          have g4 : i ≤ k' := by omega
          have hpq : k ≠ k' := by omega
          have hps : (k : Int) - 1 = (k' : Int) := by omega
          clear hk' hll
          have d1 : (wr.setCell ⟨g, k, none⟩ (.int .i64 (v : Int))).cell? ⟨g, k', none⟩ = some (.int .i64 (v : Int)) := (World.cell?_setCell_other _ _ _ _ (fun e => hpq (congrArg Addr.off e))).trans c2
          have d2 : (wr.setCell ⟨g, k', none⟩ (.int .i64 (u : Int))).cell? ⟨g, k, none⟩ = some (.int .i64 (u : Int)) := (World.cell?_setCell_other _ _ _ _ (fun e => hpq (congrArg Addr.off e).symm)).trans c1
          go_wp2
          go_region
          go_wp2
          go_roundw
          case rel => exact ⟨k', by go_num, g4, g3, by rw [← HSC.out]; exact own_drew HST.out, grown_drew (grownBy_trans hbl HGS.out), grown_drew HGR.out⟩
          case measure => simp only [intOf]; omega
        · obtain rfl : k = i := by omega
          go_wp2
          exact bodyPost_ret (v := .tuple #[]) (results_none rfl _ _ _) rfl ⟨rfl, by rw [HCUT.out]; exact hown, hbl, hg⟩

set_option maxRecDepth 4000 in
set_option maxHeartbeats 2000000 in
theorem symBBack_any {g : Nat} (cp : Value) (B N n a m : Nat) (w0 w : World) (cf : Nat → Nat → Int) (lt : Nat → Nat → Bool) (hsw : SW lt) (hcf : ∀ x y, x < N → y < N → decide (cf x y < 0) = lt x y) (hcl : ClG Tryd.prog 54 cp (some g) N w0 cf) (c : Nat) (P Q S : List Nat) (x : Nat) (l : List Nat) (hl : l = P ++ (Q ++ x :: S)) (hln : l.length = n) (hN : ∀ x ∈ l, x < N)
    (ha : P.length = a) (hb : a + Q.length = m) (h2 : 2 ≤ Q.length) (hQ : Q.Pairwise (NS lt)) (hn : n ≤ 4096) (hown : w.ownsRow B 2 1 (.slice (some ⟨g, 0, none⟩) n c) n (nats l)) (hbl : w0.grownBy w (some g)) :
    Calls Tryd.prog 87 #[.slice (some ⟨g, 0, none⟩) n c, .int .i64 (a : Int), .int .i64 (m : Int), .int .i64 ((m + 1 : Nat) : Int), .func (.func 54) #[] #[cp]] w fun e w' => e = .returned (.tuple #[]) ∧ w'.ownsRow B 2 1 (.slice (some ⟨g, 0, none⟩) n c) n (nats (P ++ mrg lt Q [x] ++ S)) ∧ w0.grownBy w' (some g) ∧ w.grownBy w' (some g) := by
  have hbn : m + 1 ≤ n := by rw [← hln, hl]; simp; omega
  obtain ⟨g', hg', hBg, hgl⟩ := own_some hown (by omega)
  obtain rfl : g = g' := by simpa using hg'
  clear hg'
  have HCL := Lib.hid hcl
  have HCF := Lib.hid hcf
  have HL := Lib.hid hln
  have HLL := Lib.hid hl
  have HMN := Lib.hid hN
  have HQ := Lib.hid hQ
  have HA := Lib.hid ha
  have HB := Lib.hid hb
  have ham : a + 2 ≤ m := by omega
  obtain ⟨d, hd⟩ : ∃ d, d = m - a := ⟨_, rfl⟩
  have e1 : IntKind.i64.wrap ((m : Int) - (a : Int)) = (d : Int) := by rw [hd, Int.ofNat_sub (by omega)]; exact IntWalk.i64_in _ (by omega)
  have n1 : ((d : Int) == 1) = false := beq_false_of_ne (by omega)
  clear hd
  obtain ⟨b, hm⟩ : ∃ b, b = m + 1 := ⟨_, rfl⟩
  have e2 : IntKind.i64.wrap ((b : Int) - (m : Int)) = 1 := by rw [show (b : Int) - (m : Int) = 1 by omega]; exact IntWalk.i64_in _ (by omega)
  rw [← hm] at hbn ⊢
  have hmb : m < b := by omega
  have hab : a ≤ m := by omega
  clear hcl hcf hln hl hN hQ ha hb hm h2
  obtain ⟨qq, hqq⟩ : ∃ qq : Nat → Bool, qq = fun h : Nat => !(lt (l[m]?.getD 0) (l[h]?.getD 0)) := ⟨_, rfl⟩
  have HQQ : Hid (∀ h, qq h = !(lt (l[m]?.getD 0) (l[h]?.getD 0))) := Lib.hid fun h => by rw [hqq]
  have HQL := Lib.hid hqq
  clear hqq
  go_enter Tryd.func87, Tryd.ntmps87
  go_wp2
  go_loopw [14, 15] (fun q r wr => ∃ i j : Nat, q = .int .i64 (i : Int) ∧ r = .int .i64 (j : Int) ∧ Bs qq a m i j ∧ wr.ownsRow B 2 1 (.slice (some ⟨g, 0, none⟩) n c) n (nats l) ∧ w0.grownBy wr (some g) ∧ w.grownBy wr (some g)) (fun q r _ => (intOf r - intOf q).toNat)
  case atStart => exact ⟨a, m, rfl, rfl, Bs.start hab, hown, hbl, World.grownBy.refl _ _⟩
  case round =>
    clear hown hbl
    obtain ⟨i, j, rfl, rfl, hbs, hown, hbl, hg⟩ := hrel
    have HBS := Lib.hid hbs
    obtain ⟨k1, k2, k3, -, -⟩ := hbs
    by_cases hij : i < j
    · obtain ⟨h, hh⟩ : ∃ h, h = (i + j) / 2 := ⟨_, rfl⟩
      have hh1 : i ≤ h := by omega
      have hh2 : h < j := by omega
      have s2 : ((i : Int) + (j : Int)) / 2 = (h : Int) := by omega
      have hijn : i + j ≤ 8192 := by omega
      clear hh
      have c1 := hown.cellAt h (by omega)
      have c2 := hown.cellAt m (by omega)
      rw [nats_get l _ (by rw [HL.out]; omega)] at c1 c2
      have hy := getNat HMN.out h (by rw [HL.out]; omega)
      have hx := getNat HMN.out m (by rw [HL.out]; omega)
      have hbd : ∀ q, w0.grownBy (wr.drewN q) (some g) := fun q => grown_drewN hbl q
      have HCC := HCL.out
      have hcc : ∀ q, Calls Tryd.prog 54 #[.int .i64 ((l[m]?.getD 0 : Nat) : Int), .int .i64 ((l[h]?.getD 0 : Nat) : Int), cp] (wr.drewN q) fun e w' => e = .returned (.int .i64 (cf (l[m]?.getD 0) (l[h]?.getD 0))) ∧ ∃ mq, w' = (wr.drewN q).drewN mq := fun q => HCC _ _ _ (hbd q) hx hy
      clear HCC hbd
      have hk2 := HCF.out _ _ hx hy
      have HUP : Hid (lt (l[m]?.getD 0) (l[h]?.getD 0) = false → Bs qq a m (h + 1) j) := Lib.hid fun hq => HBS.out.up hh1 hh2 ((HQQ.out h).trans (by rw [hq]; rfl))
      have HDN : Hid (lt (l[m]?.getD 0) (l[h]?.getD 0) = true → Bs qq a m i h) := Lib.hid fun hq => HBS.out.down hh1 hh2 ((HQQ.out h).trans (by rw [hq]; rfl))
      have hhn : (h : Int) < (n : Int) := by omega
      have han : (m : Int) < (n : Int) := by omega
      generalize l[m]?.getD 0 = u at *
      generalize l[h]?.getD 0 = v at *
      generalize cf u v = z at *
      clear HBS
      cases hlt2 : lt u v
      · rw [hlt2] at hk2 HUP
        have HE := Lib.hid (HUP.out rfl)
        clear hlt2 HUP HDN
        go_wp2
        go_quiet ((go_at_call 54; exact Calls.quiet_of (hcc _)))
        go_wp2
        go_roundw
        case rel => exact ⟨h + 1, j, by go_num, rfl, HE.out, own_drewN hown _, grown_drewN hbl _, grown_drewN hg _⟩
        case measure => simp only [intOf]; omega
      · rw [hlt2] at hk2 HDN
        have HE := Lib.hid (HDN.out rfl)
        clear hlt2 HUP HDN
        go_wp2
        go_quiet ((go_at_call 54; exact Calls.quiet_of (hcc _)))
        go_wp2
        go_roundw
        case rel => exact ⟨i, h, rfl, rfl, HE.out, own_drewN hown _, grown_drewN hbl _, grown_drewN hg _⟩
        case measure => simp only [intOf]; omega
    · obtain rfl : i = j := by omega
      clear e1
      go_wp2
      obtain ⟨wo, hwo⟩ : ∃ wo : World, wo = wr := ⟨_, rfl⟩
      rw [← hwo] at hown hbl hg ⊢
      clear hwo wr
      have HCUT : Hid (nats (P ++ mrg lt Q [x] ++ S) = nats (shU P Q S x (i - a))) := Lib.hid (by
        have := HBS.out
        rw [HQL.out] at this
        exact congrArg nats (cutB hsw HLL.out HA.out HB.out HQ.out this))
      have hbl0 := hbl
      have H0 : Hid (shU P Q S x (m - a) = l) := Lib.hid (by rw [HLL.out, show m - a = Q.length by have := HB.out; omega]; simp [shU])
      have him : i ≤ m := k3
      have HQB : Hid (a + Q.length = m) := Lib.hid HB.out
      clear HBS
      go_loopw [17] (fun q wr => ∃ k : Nat, q = .int .i64 (k : Int) ∧ i ≤ k ∧ k ≤ m ∧ wr.ownsRow B 2 1 (.slice (some ⟨g, 0, none⟩) n c) n (nats (shU P Q S x (k - a))) ∧ w0.grownBy wr (some g) ∧ w.grownBy wr (some g)) (fun q _ => (intOf q).toNat)
      case atStart => exact ⟨m, rfl, him, Nat.le_refl _, by rw [H0.out]; exact hown, hbl, hg⟩
      case round =>
        clear hown hbl hg hbl0
        obtain ⟨k, rfl, hk1, hk2, hown, hbl, hg⟩ := hrel
        by_cases hke : i < k
        · obtain ⟨k', hk'⟩ : ∃ k', k = k' + 1 := ⟨k - 1, by omega⟩
          have hsc : sw2 (shU P Q S x (k - a)) k k' = shU P Q S x (k' - a) := by
            rw [hk', show k' + 1 - a = k' - a + 1 by omega, shD_step P Q S x (k' - a) k' (by have := HQB.out; omega) (by have := HA.out; omega)]
          have hll : (shU P Q S x (k - a)).length = n := by rw [← HL.out, ← H0.out, shU_length, shU_length]
          have HSC := Lib.hid hsc
          clear hsc
          generalize shU P Q S x (k - a) = L at *
          have c1 := hown.cellAt k (by omega)
          have c2 := hown.cellAt k' (by omega)
          rw [nats_get L _ (by omega)] at c1 c2
          have f1 := hown.frozenAt k
          have f2 := hown.frozenAt k'
          have HST : Hid (((wr.setCell ⟨g, k, none⟩ (.int .i64 ((L[k']?.getD 0 : Nat) : Int))).setCell ⟨g, k', none⟩ (.int .i64 ((L[k]?.getD 0 : Nat) : Int))).ownsRow B 2 1 (.slice (some ⟨g, 0, none⟩) n c) n (nats (sw2 L k k'))) := by
            show World.ownsRow _ _ _ _ _ _ _
            have := ((hown.stored k (.int .i64 ((L[k']?.getD 0 : Nat) : Int))).1.stored k' (.int .i64 ((L[k]?.getD 0 : Nat) : Int))).1
            unfold sw2
            rw [nats_set, nats_set]
            exact this
          have HGS : Hid (wr.grownBy ((wr.setCell ⟨g, k, none⟩ (.int .i64 ((L[k']?.getD 0 : Nat) : Int))).setCell ⟨g, k', none⟩ (.int .i64 ((L[k]?.getD 0 : Nat) : Int))) (some g)) := by
            show World.grownBy _ _ _
            exact grownBy_trans (hown.stored k _).2 ((hown.stored k _).1.stored k' _).2
          have HGR : Hid (w.grownBy ((wr.setCell ⟨g, k, none⟩ (.int .i64 ((L[k']?.getD 0 : Nat) : Int))).setCell ⟨g, k', none⟩ (.int .i64 ((L[k]?.getD 0 : Nat) : Int))) (some g)) := by
            show World.grownBy _ _ _
            exact grownBy_trans (grownBy_trans hg (hown.stored k _).2) ((hown.stored k _).1.stored k' _).2
          generalize L[k]?.getD 0 = u at *
          generalize L[k']?.getD 0 = v at *
          have e4 : IntKind.i64.wrap ((k : Int) - 1) = (k' : Int) := by rw [show (k : Int) - 1 = (k' : Int) by omega]; exact IntWalk.i64_in _ (by omega)
          have g1 : (k : Int) < (n : Int) := by omega
          have g2 : (k' : Int) < (n : Int) := by omega
          have g3 : k' ≤ m := by omega
          have g4 : i ≤ k' := by omega
          have hpq : k ≠ k' := by omega
          have hps : (k : Int) - 1 = (k' : Int) := by omega
          clear hk' hll
          have d1 : (wr.setCell ⟨g, k, none⟩ (.int .i64 (v : Int))).cell? ⟨g, k', none⟩ = some (.int .i64 (v : Int)) := (World.cell?_setCell_other _ _ _ _ (fun e => hpq (congrArg Addr.off e))).trans c2
          have d2 : (wr.setCell ⟨g, k', none⟩ (.int .i64 (u : Int))).cell? ⟨g, k, none⟩ = some (.int .i64 (u : Int)) := (World.cell?_setCell_other _ _ _ _ (fun e => hpq (congrArg Addr.off e).symm)).trans c1
          go_wp2
          go_region
          go_wp2
          go_roundw
          case rel => exact ⟨k', by go_num, g4, g3, by rw [← HSC.out]; exact own_drew HST.out, grown_drew (grownBy_trans hbl HGS.out), grown_drew HGR.out⟩
          case measure => simp only [intOf]; omega
        · obtain rfl : k = i := by omega
          go_wp2
          exact bodyPost_ret (v := .tuple #[]) (results_none rfl _ _ _) rfl ⟨rfl, by rw [HCUT.out]; exact hown, hbl, hg⟩

end Go.Proofs.YtjobgobeiiakgaaDoor

/- The library's stable sort: two sorted parts merged, the plain part of the halving. -/
namespace Go.Proofs.YtjobgobeiiakgaaDoor
set_option linter.unusedSimpArgs false
set_option linter.unusedVariables false
open Go.RowKit
theorem symRot (P A B S : List Nat) (m i j : Nat) (hm : P.length + A.length = m) (hi : i ≤ A.length) (hj : j ≤ B.length) :
    Rot (P ++ (A ++ (B ++ S))) m (A.length - i) j (P ++ (A.take i ++ (B.take j ++ (A.drop i ++ (B.drop j ++ S))))) := by
  refine ⟨P ++ A.take i, A.drop i, B.take j, B.drop j ++ S, ?_, by simp; omega, by simp, by simp; omega, by simp [List.append_assoc]⟩
  have e1 := List.take_append_drop i A
  have e2 := List.take_append_drop j B
  calc P ++ (A ++ (B ++ S)) = P ++ ((A.take i ++ A.drop i) ++ ((B.take j ++ B.drop j) ++ S)) := by rw [e1, e2]
    _ = _ := by simp only [List.append_assoc]
theorem symStay (P A B S : List Nat) (i j : Nat) (h : i = A.length ∨ j = 0) (hi : i ≤ A.length) : P ++ (A.take i ++ (B.take j ++ (A.drop i ++ (B.drop j ++ S)))) = P ++ (A ++ (B ++ S)) := by
  rcases h with rfl | rfl
  · rw [List.take_length, List.drop_length, List.nil_append, ← List.append_assoc (B.take j), List.take_append_drop]
  · rw [List.take_zero, List.drop_zero, List.nil_append, ← List.append_assoc (A.take i), List.take_append_drop]
theorem symA_get (P A B S : List Nat) (t k : Nat) (h : t < A.length) (hk : k = P.length + t) : (P ++ (A ++ (B ++ S)))[k]?.getD 0 = A[t]?.getD 0 := by
  rw [hk, List.getElem?_append_right (by omega), show P.length + t - P.length = t by omega, List.getElem?_append_left h]
theorem symB_get (P A B S : List Nat) (t k : Nat) (h : t < B.length) (hk : k = P.length + A.length + t) : (P ++ (A ++ (B ++ S)))[k]?.getD 0 = B[t]?.getD 0 := by
  rw [hk, List.getElem?_append_right (by omega), List.getElem?_append_right (by omega), show P.length + A.length + t - P.length - A.length = t by omega, List.getElem?_append_left h]
/-- The halving search between the two parts, and the place that it finds. -/
theorem symCut {lt : Nat → Nat → Bool} (hsw : SW lt) {P A B S l : List Nat} {a m b mid s lo hi : Nat} (hl : l = P ++ (A ++ (B ++ S))) (ha : P.length = a) (hm : a + A.length = m) (hb : m + B.length = b) (hA : A.Pairwise (NS lt)) (hB : B.Pairwise (NS lt))
    (hmid : mid = (a + b) / 2) (hlo : (mid < m ∧ lo = mid + m - b ∧ b ≤ mid + m ∧ hi = mid) ∨ (m ≤ mid ∧ lo = a ∧ hi = m)) (hlo1 : a ≤ lo)
    (hbs : Bs (fun c => !(lt (l[mid + m - 1 - c]?.getD 0) (l[c]?.getD 0))) lo hi s s) :
    ∃ i j, s = a + i ∧ mid + m - s = m + j ∧ i ≤ A.length ∧ j ≤ B.length ∧ i + j = mid - a ∧ mrg lt A B = mrg lt (A.take i) (B.take j) ++ mrg lt (A.drop i) (B.drop j) := by
  obtain ⟨h1, -, h2, h3, h4⟩ := hbs
  have hsm : s ≤ m := by omega
  have hs2 : s ≤ mid := by omega
  have hs3 : mid + m - s ≤ b := by omega
  refine ⟨s - a, mid - s, by omega, by omega, by omega, by omega, by omega, mrg_cut hsw hA hB _ _ (by omega) (by omega) ?_ ?_⟩
  · rcases h3 with h | h
    · omega
    · by_cases c1 : s - a = 0
      · exact Or.inl c1
      · by_cases c2 : mid - s = B.length
        · exact Or.inr (Or.inl c2)
        · right; right
          rw [← symB_get P A B S (mid - s) (mid + m - 1 - (s - 1)) (by omega) (by omega), ← symA_get P A B S (s - a - 1) (s - 1) (by omega) (by omega), ← hl]
          simpa using h
  · rcases h4 with h | h
    · omega
    · by_cases c1 : mid - s = 0
      · exact Or.inl c1
      · by_cases c2 : s - a = A.length
        · exact Or.inr (Or.inl c2)
        · right; right
          rw [← symB_get P A B S (mid - s - 1) (mid + m - 1 - s) (by omega) (by omega), ← symA_get P A B S (s - a) s (by omega) (by omega), ← hl]
          simpa using h
/-- The list once its middle parts have changed places. -/
abbrev symL1 (P A C S : List Nat) (x y : Nat) : List Nat := P ++ (A.take x ++ (C.take y ++ (A.drop x ++ (C.drop y ++ S))))
/-- The list once the lower half is merged. -/
abbrev symL2 (lt : Nat → Nat → Bool) (P A C S : List Nat) (x y : Nat) : List Nat := P ++ (mrg lt (A.take x) (C.take y) ++ (A.drop x ++ (C.drop y ++ S)))
theorem symOne (lt : Nat → Nat → Bool) (P A C S : List Nat) (x y : Nat) (h : x = 0 ∨ y = 0) : symL1 P A C S x y = symL2 lt P A C S x y := by
  rcases h with rfl | rfl
  · simp [symL1, symL2, nil_mrg]
  · simp [symL1, symL2, mrg_nil]
theorem symTwo {lt : Nat → Nat → Bool} {P A C S : List Nat} {x y : Nat} (hcut : mrg lt A C = mrg lt (A.take x) (C.take y) ++ mrg lt (A.drop x) (C.drop y)) (h : x = A.length ∨ y = C.length) : symL2 lt P A C S x y = P ++ (mrg lt A C ++ S) := by
  rw [hcut]
  rcases h with rfl | rfl
  · simp [symL2, nil_mrg]
  · simp [symL2, mrg_nil]
theorem mrg_mem {lt : Nat → Nat → Bool} {A C : List Nat} {z : Nat} : z ∈ mrg lt A C ↔ z ∈ A ∨ z ∈ C := by
  rw [(mrg_perm lt _ A C rfl).mem_iff, List.mem_append]
theorem mrg_len (lt : Nat → Nat → Bool) (A C : List Nat) : (mrg lt A C).length = A.length + C.length := by
  rw [(mrg_perm lt _ A C rfl).length_eq, List.length_append]
theorem symL2_mem {lt : Nat → Nat → Bool} {P A C S : List Nat} {x y N : Nat} (h : ∀ z ∈ P ++ (A ++ (C ++ S)), z < N) : ∀ z ∈ symL2 lt P A C S x y, z < N := by
  intro z hz
  apply h
  simp only [symL2, List.mem_append, mrg_mem] at hz ⊢
  rcases hz with h | (h | h) | h | h | h
  · exact Or.inl h
  · exact Or.inr (Or.inl (List.mem_of_mem_take h))
  · exact Or.inr (Or.inr (Or.inl (List.mem_of_mem_take h)))
  · exact Or.inr (Or.inl (List.mem_of_mem_drop h))
  · exact Or.inr (Or.inr (Or.inl (List.mem_of_mem_drop h)))
  · exact Or.inr (Or.inr (Or.inr h))
theorem symL1_mem {P A C S : List Nat} {x y N : Nat} (h : ∀ z ∈ P ++ (A ++ (C ++ S)), z < N) : ∀ z ∈ symL1 P A C S x y, z < N := by
  intro z hz
  apply h
  simp only [symL1, List.mem_append] at hz ⊢
  rcases hz with h | h | h | h | h | h
  · exact Or.inl h
  · exact Or.inr (Or.inl (List.mem_of_mem_take h))
  · exact Or.inr (Or.inr (Or.inl (List.mem_of_mem_take h)))
  · exact Or.inr (Or.inl (List.mem_of_mem_drop h))
  · exact Or.inr (Or.inr (Or.inl (List.mem_of_mem_drop h)))
  · exact Or.inr (Or.inr (Or.inr h))
theorem symL1_len (P A C S : List Nat) (x y : Nat) : (symL1 P A C S x y).length = (P ++ (A ++ (C ++ S))).length := by
  have e1 := congrArg List.length (List.take_append_drop x A)
  have e2 := congrArg List.length (List.take_append_drop y C)
  simp only [symL1, List.length_append] at e1 e2 ⊢
  omega
theorem symL2_len (lt : Nat → Nat → Bool) (P A C S : List Nat) (x y : Nat) : (symL2 lt P A C S x y).length = (P ++ (A ++ (C ++ S))).length := by
  have e1 := congrArg List.length (List.take_append_drop x A)
  have e2 := congrArg List.length (List.take_append_drop y C)
  simp only [symL2, List.length_append, mrg_len] at e1 e2 ⊢
  omega

end Go.Proofs.YtjobgobeiiakgaaDoor

/- The library's stable sort: two sorted parts merged. -/
namespace Go.Proofs.YtjobgobeiiakgaaDoor
set_option linter.unusedSimpArgs false
set_option linter.unusedVariables false
open Go.RowKit
theorem size_at {w0 w : World} {B g : Nat} {T : TypeId} {n c : Nat} {xs : List Value} (h : w.ownsRow B T 1 (.slice (some ⟨g, 0, none⟩) n c) n xs) (hn : 1 ≤ n) : g < w.heap.size := by
  obtain ⟨g', e, -, h2⟩ := own_some h hn
  cases e; exact h2
/-- The merge of parts of at most k elements together. -/
def SymKTurns (k n N B g c : Nat) (cp : Value) (w0 : World) (lt : Nat → Nat → Bool) : Prop :=
  ∀ (P A C S l : List Nat) (w : World) (a m b : Nat), A.length + C.length ≤ k → 1 ≤ A.length → 1 ≤ C.length → l = P ++ (A ++ (C ++ S)) → l.length = n → (∀ x ∈ l, x < N) → P.length = a → a + A.length = m → m + C.length = b → A.Pairwise (NS lt) → C.Pairwise (NS lt) →
    w.ownsRow B 2 1 (.slice (some ⟨g, 0, none⟩) n c) n (nats l) → w0.grownBy w (some g) →
    Calls Tryd.prog 87 #[.slice (some ⟨g, 0, none⟩) n c, .int .i64 (a : Int), .int .i64 (m : Int), .int .i64 (b : Int), .func (.func 52) #[] #[cp]] w fun e w' => e = .returned (.tuple #[]) ∧ w'.ownsRow B 2 1 (.slice (some ⟨g, 0, none⟩) n c) n (nats (P ++ (mrg lt A C ++ S))) ∧ w0.grownBy w' (some g) ∧ w.grownBy w' (some g)

set_option maxRecDepth 4000 in
set_option maxHeartbeats 4000000 in
theorem symSTurns_any {g : Nat} (cp : Value) (B N n : Nat) (w0 : World) (cf : Nat → Nat → Int) (lt : Nat → Nat → Bool) (hsw : SW lt) (hcf : ∀ x y, x < N → y < N → decide (cf x y < 0) = lt x y) (hcl : ClG Tryd.prog 52 cp (some g) N w0 cf) (c k : Nat) (hn : n ≤ 4096) (IH : SymKTurns k n N B g c cp w0 lt) :
    SymKTurns (k + 1) n N B g c cp w0 lt := by
  intro P A C S l w a m b hk hA1 hC1 hl hln hN ha hm hb hAs hCs hown hbl
  by_cases hA2 : A.length = 1
  · obtain ⟨x, rfl⟩ := List.length_eq_one_iff.1 hA2
    have := symATurns_any cp B N n a b w0 w cf lt hsw hcf hcl c P C S x l (by simpa using hl) hln hN ha (by simp at hm; omega) hCs hn hown hbl
    rw [show a + 1 = m by simpa using hm, List.append_assoc] at this
    exact this
  by_cases hC2 : C.length = 1
  · obtain ⟨x, rfl⟩ := List.length_eq_one_iff.1 hC2
    have := symBTurns_any cp B N n a m w0 w cf lt hsw hcf hcl c P A S x l (by simpa using hl) hln hN ha hm (by omega) hAs hn hown hbl
    rw [show m + 1 = b by simpa using hb, List.append_assoc] at this
    exact this
  have hgl := size_at (w0 := w0) hown (by have := congrArg List.length hl; simp at this; omega)
  have hBg : B ≤ g := by
    obtain ⟨g', e, h2, -⟩ := own_some hown (by have := congrArg List.length hl; simp at this; omega)
    cases e; exact h2
  have hbn : b ≤ n := by have := congrArg List.length hl; simp at this; omega
  have HCL := Lib.hid hcl
  have HCF := Lib.hid hcf
  have HIH := Lib.hid IH
  have HL := Lib.hid hln
  have HLL := Lib.hid hl
  have HMN := Lib.hid hN
  have HA := Lib.hid ha
  have HM := Lib.hid hm
  have HB := Lib.hid hb
  have HAS := Lib.hid hAs
  have HCS := Lib.hid hCs
  have HK := Lib.hid hk
  have HA2 : Hid (2 ≤ A.length) := Lib.hid (by omega)
  have HC2 : Hid (2 ≤ C.length) := Lib.hid (by omega)
  have ham : a + 2 ≤ m := by omega
  have hmb : m + 2 ≤ b := by omega
  clear hcl hcf IH hl hln hN ha hm hb hAs hCs hk hA1 hC1 hA2 hC2
  obtain ⟨d1, hd1⟩ : ∃ d, d = m - a := ⟨_, rfl⟩
  obtain ⟨d2, hd2⟩ : ∃ d, d = b - m := ⟨_, rfl⟩
  have e1 : IntKind.i64.wrap ((m : Int) - (a : Int)) = (d1 : Int) := by rw [hd1, Int.ofNat_sub (by omega)]; exact IntWalk.i64_in _ (by omega)
  have e2 : IntKind.i64.wrap ((b : Int) - (m : Int)) = (d2 : Int) := by rw [hd2, Int.ofNat_sub (by omega)]; exact IntWalk.i64_in _ (by omega)
  have n1 : ((d1 : Int) == 1) = false := beq_false_of_ne (by omega)
  have n2 : ((d2 : Int) == 1) = false := beq_false_of_ne (by omega)
  clear hd1 hd2
  obtain ⟨mid, hmid⟩ : ∃ mid, mid = (a + b) / 2 := ⟨_, rfl⟩
  have HMID := Lib.hid hmid
  have e3 : ((a : Int) + (b : Int)) / 2 = (mid : Int) := by omega
  have hm1 : a < mid := by omega
  have hm2 : mid < b := by omega
  have hm3 : mid + m ≤ a + b + (m - a) := by omega
  obtain ⟨qq, hqq⟩ : ∃ qq : Nat → Bool, qq = fun c : Nat => !(lt (l[mid + m - 1 - c]?.getD 0) (l[c]?.getD 0)) := ⟨_, rfl⟩
  have HQQ : Hid (∀ c, qq c = !(lt (l[mid + m - 1 - c]?.getD 0) (l[c]?.getD 0))) := Lib.hid fun c => by rw [hqq]
  have HQL := Lib.hid hqq
  clear hqq
  have e4 : IntKind.i64.wrap ((mid : Int) + (m : Int)) = ((mid + m : Nat) : Int) := by rw [Int.natCast_add]; exact IntWalk.i64_in _ (by omega)
  have e5 : IntKind.i64.wrap (((mid + m : Nat) : Int) - 1) = ((mid + m - 1 : Nat) : Int) := by rw [Int.ofNat_sub (by omega)]; exact IntWalk.i64_in _ (by omega)
  by_cases hlow : mid < m
  · have n3 : decide ((m : Int) > (mid : Int)) = true := decide_eq_true (by omega)
    have n4 : decide ((mid : Int) < (m : Int)) = true := decide_eq_true (by omega)
    have e6 : IntKind.i64.wrap (((mid + m : Nat) : Int) - (b : Int)) = ((mid + m - b : Nat) : Int) := by rw [Int.ofNat_sub (by omega)]; exact IntWalk.i64_in _ (by omega)
    obtain ⟨lo, hlo⟩ : ∃ lo, lo = mid + m - b := ⟨_, rfl⟩
    obtain ⟨hi, hhi⟩ : ∃ hi, hi = mid := ⟨_, rfl⟩
    have HLO : Hid ((mid < m ∧ lo = mid + m - b ∧ b ≤ mid + m ∧ hi = mid) ∨ (m ≤ mid ∧ lo = a ∧ hi = m)) := Lib.hid (Or.inl ⟨hlow, hlo, by omega, hhi⟩)
    have hlo1 : mid + m ≤ lo + b := by omega
    have hlo2 : a ≤ lo := by omega
    have hlh : lo ≤ hi := by omega
    have hhi1 : hi ≤ m := by omega
    have hhi2 : hi ≤ mid := by omega
    have hp1 : mid + m - 1 + 1 = mid + m := by omega
    have hp2 : m ≤ mid + m - 1 := by omega
    have HHI := Lib.hid hhi
    rw [← hlo] at e6
    clear hmid hlo hhi
    obtain ⟨p, hpe⟩ : ∃ p, p = mid + m - 1 := ⟨_, rfl⟩
    obtain ⟨nn, hne⟩ : ∃ nn, nn = mid + m := ⟨_, rfl⟩
    rw [← hpe] at e5 hp1 hp2 HQQ HQL
    rw [← hne] at e4 e5 e6 hp1 hlo1 hm3
    have HPE := Lib.hid hpe
    have HNE := Lib.hid hne
    clear hpe hne
    go_enter Tryd.func87, Tryd.ntmps87
    go_wp2
    go_loopw [20, 21] (fun q r wr => ∃ i j : Nat, q = .int .i64 (i : Int) ∧ r = .int .i64 (j : Int) ∧ Bs qq lo hi i j ∧ wr.ownsRow B 2 1 (.slice (some ⟨g, 0, none⟩) n c) n (nats l) ∧ w0.grownBy wr (some g) ∧ w.grownBy wr (some g)) (fun q r _ => (intOf r - intOf q).toNat)
    case atStart => exact ⟨lo, hi, rfl, by rw [HHI.out], Bs.start hlh, hown, hbl, World.grownBy.refl _ _⟩
    case round =>
      clear hown hbl e1 e2 e3 e4 e5 e6 n1 n2 n3 n4
      obtain ⟨i, j, rfl, rfl, hbs, hown, hbl, hg⟩ := hrel
      have HBS := Lib.hid hbs
      obtain ⟨k1, k2, k3, -, -⟩ := hbs
      by_cases hij : i < j
      · obtain ⟨h, hh⟩ : ∃ h, h = (i + j) / 2 := ⟨_, rfl⟩
        have hh1 : i ≤ h := by omega
        have hh2 : h < j := by omega
        have s2 : ((i : Int) + (j : Int)) / 2 = (h : Int) := by omega
        have hijn : i + j ≤ 8192 := by omega
        obtain ⟨r, hr⟩ : ∃ r, r = p - h := ⟨_, rfl⟩
        have hrn : r < n := by omega
        have s3 : IntKind.i64.wrap ((p : Int) - (h : Int)) = (r : Int) := by rw [hr, Int.ofNat_sub (by omega)]; exact IntWalk.i64_in _ (by omega)
        have s4 : (p : Int) - (h : Int) = (r : Int) := by omega
        have hqh := HQQ.out h
        rw [← hr] at hqh
        have HQH := Lib.hid hqh
        clear hh hr hqh
        have c1 := hown.cellAt r (by omega)
        have c2 := hown.cellAt h (by omega)
        rw [nats_get l _ (by rw [HL.out]; omega)] at c1 c2
        have hx := getNat HMN.out r (by rw [HL.out]; omega)
        have hy := getNat HMN.out h (by rw [HL.out]; omega)
        have hbd : ∀ q, w0.grownBy (wr.drewN q) (some g) := fun q => grown_drewN hbl q
        have HCC := HCL.out
        have hcc : ∀ q, Calls Tryd.prog 52 #[.int .i64 ((l[r]?.getD 0 : Nat) : Int), .int .i64 ((l[h]?.getD 0 : Nat) : Int), cp] (wr.drewN q) fun e w' => e = .returned (.int .i64 (cf (l[r]?.getD 0) (l[h]?.getD 0))) ∧ ∃ mq, w' = (wr.drewN q).drewN mq := fun q => HCC _ _ _ (hbd q) hx hy
        clear HCC hbd
        have hk2 := HCF.out _ _ hx hy
        have HUP : Hid (lt (l[r]?.getD 0) (l[h]?.getD 0) = false → Bs qq lo hi (h + 1) j) := Lib.hid fun hq => HBS.out.up hh1 hh2 (HQH.out.trans (by rw [hq]; rfl))
        have HDN : Hid (lt (l[r]?.getD 0) (l[h]?.getD 0) = true → Bs qq lo hi i h) := Lib.hid fun hq => HBS.out.down hh1 hh2 (HQH.out.trans (by rw [hq]; rfl))
        have hhn : (h : Int) < (n : Int) := by omega
        have hrn' : (r : Int) < (n : Int) := by omega
        generalize l[r]?.getD 0 = u at *
        generalize l[h]?.getD 0 = v at *
        generalize cf u v = z at *
        clear HBS HQH
        cases hlt2 : lt u v
        · rw [hlt2] at hk2 HUP
          have HE := Lib.hid (HUP.out rfl)
          clear hlt2 HUP HDN
          go_wp2
          go_quiet ((go_at_call 52; exact Calls.quiet_of (hcc _)))
          go_wp2
          go_roundw
          case rel => exact ⟨h + 1, j, by go_num, rfl, HE.out, own_drewN hown _, grown_drewN hbl _, grown_drewN hg _⟩
          case measure => simp only [intOf]; omega
        · rw [hlt2] at hk2 HDN
          have HE := Lib.hid (HDN.out rfl)
          clear hlt2 HUP HDN
          go_wp2
          go_quiet ((go_at_call 52; exact Calls.quiet_of (hcc _)))
          go_wp2
          go_roundw
          case rel => exact ⟨i, h, rfl, rfl, HE.out, own_drewN hown _, grown_drewN hbl _, grown_drewN hg _⟩
          case measure => simp only [intOf]; omega
      · obtain rfl : i = j := by omega
        obtain ⟨x, y, hs, he, hx, hy, hxy, hcut⟩ := symCut hsw HLL.out HA.out HM.out HB.out HAS.out HCS.out HMID.out HLO.out hlo2 (by have := HBS.out; rw [HQL.out, HPE.out] at this; exact this)
        rw [← HNE.out] at he
        obtain ⟨en, hen⟩ : ∃ en, en = nn - i := ⟨_, rfl⟩
        have hnn := HNE.out
        have hMM := HM.out
        have hBB := HB.out
        have e8 : IntKind.i64.wrap ((nn : Int) - (i : Int)) = (en : Int) := by rw [hen, Int.ofNat_sub (by omega)]; exact IntWalk.i64_in _ (by omega)
        have HCUT := Lib.hid hcut
        have HRR : Hid (Rot l m (m - i) (en - m) (P ++ (A.take x ++ (C.take y ++ (A.drop x ++ (C.drop y ++ S)))))) := Lib.hid (by
          have := symRot P A C S m x y (by rw [HA.out]; exact HM.out) hx hy
          rw [← HLL.out, show A.length - x = m - i by omega, show y = en - m by omega] at this
          rw [show y = en - m by omega]
          exact this)
        have HR : Hid (i < m → m < en → Calls Tryd.prog 95 #[.slice (some ⟨g, 0, none⟩) n c, .int .i64 (i : Int), .int .i64 (m : Int), .int .i64 (en : Int), .func (.func 52) #[] #[cp]] wr fun e w' => e = .returned (.tuple #[]) ∧ w'.ownsRow B 2 1 (.slice (some ⟨g, 0, none⟩) n c) n (nats (symL1 P A C S x y)) ∧ wr.grownBy w' (some g)) := Lib.hid fun h1 h2 => rotI_any (some ⟨g, 0, none⟩) c B n i m en l _ wr _ HL.out h1 h2 (by omega) HRR.out hn hown
        have R1 : Hid (∀ W, W.ownsRow B 2 1 (.slice (some ⟨g, 0, none⟩) n c) n (nats (symL1 P A C S x y)) → w0.grownBy W (some g) → a < i → i < mid → Calls Tryd.prog 87 #[.slice (some ⟨g, 0, none⟩) n c, .int .i64 (a : Int), .int .i64 (i : Int), .int .i64 (mid : Int), .func (.func 52) #[] #[cp]] W fun e w' => e = .returned (.tuple #[]) ∧ w'.ownsRow B 2 1 (.slice (some ⟨g, 0, none⟩) n c) n (nats (symL2 lt P A C S x y)) ∧ w0.grownBy w' (some g) ∧ W.grownBy w' (some g)) :=
          Lib.hid fun W hW hWb h1 h2 => HIH.out P (A.take x) (C.take y) (A.drop x ++ (C.drop y ++ S)) _ W a i mid (by have := HK.out; simp; omega) (by simp; omega) (by simp; omega) rfl (by rw [symL1_len, ← HLL.out, HL.out]) (symL1_mem (by rw [← HLL.out]; exact HMN.out)) HA.out (by simp; omega) (by simp; omega) (HAS.out.sublist (List.take_sublist _ _)) (HCS.out.sublist (List.take_sublist _ _)) hW hWb
        have R2 : Hid (∀ W, W.ownsRow B 2 1 (.slice (some ⟨g, 0, none⟩) n c) n (nats (symL2 lt P A C S x y)) → w0.grownBy W (some g) → mid < en → en < b → Calls Tryd.prog 87 #[.slice (some ⟨g, 0, none⟩) n c, .int .i64 (mid : Int), .int .i64 (en : Int), .int .i64 (b : Int), .func (.func 52) #[] #[cp]] W fun e w' => e = .returned (.tuple #[]) ∧ w'.ownsRow B 2 1 (.slice (some ⟨g, 0, none⟩) n c) n (nats (P ++ (mrg lt A C ++ S))) ∧ w0.grownBy w' (some g) ∧ W.grownBy w' (some g)) :=
          Lib.hid fun W hW hWb h1 h2 => by
            have := HIH.out (P ++ mrg lt (A.take x) (C.take y)) (A.drop x) (C.drop y) S _ W mid en b (by have := HK.out; simp; omega) (by simp; omega) (by simp; omega) rfl (by rw [List.append_assoc]; exact (symL2_len lt P A C S x y).trans (by rw [← HLL.out, HL.out])) (by rw [List.append_assoc]; exact symL2_mem (by rw [← HLL.out]; exact HMN.out)) (by have := HA.out; rw [List.length_append, mrg_len]; simp; omega) (by simp; omega) (by simp; omega) (HAS.out.sublist (List.drop_sublist _ _)) (HCS.out.sublist (List.drop_sublist _ _)) (by rw [List.append_assoc]; exact hW) hWb
            rw [hcut]
            simp only [List.append_assoc] at this ⊢
            exact this
        have hsz : g < wr.heap.size := Nat.lt_of_lt_of_le hgl hg.size
        have q1 : i < m ↔ mid < en := by omega
        have q2 : m < en ↔ i < mid := by omega
        have HXA : Hid (i = a + x ∧ m = a + A.length ∧ en = m + y ∧ b = m + C.length ∧ mid = a + x + y ∧ x ≤ A.length ∧ y ≤ C.length) := Lib.hid (by omega)
        clear hs he hx hy hxy hnn hMM hBB hen hcut HBS k1 k2 k3
        by_cases h1 : i < m <;> by_cases h2 : m < en <;> by_cases h3 : a < i <;> by_cases h4 : en < b
        · have h5 := q1.1 h1
          have h6 := q2.1 h2
          clear q1 q2
          go_wp2_with (first | (go_at_call 87; refine (R2.out _ ho2 hb2 h5 h4).mono ?_; rintro e w3 ⟨rfl, ho3, hb3, hg3⟩) | (go_at_call 87; refine (R1.out _ ho1 (grownBy_trans hbl hg1) h3 h6).mono ?_; rintro e w2 ⟨rfl, ho2, hb2, hg2⟩) | (go_at_call 95; refine (HR.out h1 h2).mono ?_; rintro e w1 ⟨rfl, ho1, hg1⟩))
          go_end0
          exact ⟨rfl, ho3, hb3, grownBy_trans hg (grownBy_trans hg1 (grownBy_trans hg2 hg3))⟩
        · have h5 := q1.1 h1
          have h6 := q2.1 h2
          have htwo := symTwo (P := P) (S := S) HCUT.out (by have := HXA.out; omega)
          clear q1 q2
          go_wp2_with (first | (go_at_call 87; refine (R1.out _ ho1 (grownBy_trans hbl hg1) h3 h6).mono ?_; rintro e w2 ⟨rfl, ho2, hb2, hg2⟩) | (go_at_call 95; refine (HR.out h1 h2).mono ?_; rintro e w1 ⟨rfl, ho1, hg1⟩))
          go_end0
          exact ⟨rfl, by rw [← htwo]; exact ho2, hb2, grownBy_trans hg (grownBy_trans hg1 hg2)⟩
        · have h5 := q1.1 h1
          have h6 := q2.1 h2
          have hone := symOne lt P A C S x y (by have := HXA.out; omega)
          clear q1 q2
          go_wp2_with (first | (go_at_call 87; refine (R2.out _ (by rw [← hone]; exact ho1) (grownBy_trans hbl hg1) h5 h4).mono ?_; rintro e w3 ⟨rfl, ho3, hb3, hg3⟩) | (go_at_call 95; refine (HR.out h1 h2).mono ?_; rintro e w1 ⟨rfl, ho1, hg1⟩))
          go_end0
          exact ⟨rfl, ho3, hb3, grownBy_trans hg (grownBy_trans hg1 hg3)⟩
        · have h5 := q1.1 h1
          have h6 := q2.1 h2
          have hone := symOne lt P A C S x y (by have := HXA.out; omega)
          have htwo := symTwo (P := P) (S := S) HCUT.out (by have := HXA.out; omega)
          clear q1 q2
          go_wp2_with ((go_at_call 95; refine (HR.out h1 h2).mono ?_; rintro e w1 ⟨rfl, ho1, hg1⟩))
          go_end0
          exact ⟨rfl, by rw [← htwo, ← hone]; exact ho1, (grownBy_trans hbl hg1), grownBy_trans hg hg1⟩
        · have h5 := q1.1 h1
          have h6 : ¬ i < mid := fun h => h2 (q2.2 h)
          have hst : symL1 P A C S x y = l := (symStay P A C S x y (by have := HXA.out; omega) (by have := HXA.out; omega)).trans HLL.out.symm
          have ho1 : wr.ownsRow B 2 1 (.slice (some ⟨g, 0, none⟩) n c) n (nats (symL1 P A C S x y)) := by rw [hst]; exact hown
          have hone := symOne lt P A C S x y (by have := HXA.out; omega)
          clear q1 q2 hst
          go_wp2_with ((go_at_call 87; refine (R2.out _ (by rw [← hone]; exact ho1) hbl h5 h4).mono ?_; rintro e w3 ⟨rfl, ho3, hb3, hg3⟩))
          go_end0
          exact ⟨rfl, ho3, hb3, grownBy_trans hg hg3⟩
        · exfalso; have := HXA.out; have := HA2.out; have := HC2.out; omega
        · exfalso; have := HXA.out; have := HA2.out; have := HC2.out; omega
        · exfalso; have := HXA.out; have := HA2.out; have := HC2.out; omega
        · have h5 : ¬ mid < en := fun h => h1 (q1.2 h)
          have h6 := q2.1 h2
          have hst : symL1 P A C S x y = l := (symStay P A C S x y (by have := HXA.out; omega) (by have := HXA.out; omega)).trans HLL.out.symm
          have ho1 : wr.ownsRow B 2 1 (.slice (some ⟨g, 0, none⟩) n c) n (nats (symL1 P A C S x y)) := by rw [hst]; exact hown
          have htwo := symTwo (P := P) (S := S) HCUT.out (by have := HXA.out; omega)
          clear q1 q2 hst
          go_wp2_with ((go_at_call 87; refine (R1.out _ ho1 hbl h3 h6).mono ?_; rintro e w2 ⟨rfl, ho2, hb2, hg2⟩))
          go_end0
          exact ⟨rfl, by rw [← htwo]; exact ho2, hb2, grownBy_trans hg hg2⟩
        · exfalso; have := HXA.out; have := HA2.out; have := HC2.out; omega
        · exfalso; have := HXA.out; have := HA2.out; have := HC2.out; omega
        · exfalso; have := HXA.out; have := HA2.out; have := HC2.out; omega
        · have h5 : ¬ mid < en := fun h => h1 (q1.2 h)
          have h6 : ¬ i < mid := fun h => h2 (q2.2 h)
          have hst : symL1 P A C S x y = l := (symStay P A C S x y (by have := HXA.out; omega) (by have := HXA.out; omega)).trans HLL.out.symm
          have ho1 : wr.ownsRow B 2 1 (.slice (some ⟨g, 0, none⟩) n c) n (nats (symL1 P A C S x y)) := by rw [hst]; exact hown
          have hone := symOne lt P A C S x y (by have := HXA.out; omega)
          have htwo := symTwo (P := P) (S := S) HCUT.out (by have := HXA.out; omega)
          clear q1 q2 hst
          go_wp2
          go_end0
          exact ⟨rfl, by rw [← htwo, ← hone]; exact ho1, hbl, hg⟩
        · exfalso; have := HXA.out; have := HA2.out; have := HC2.out; omega
        · exfalso; have := HXA.out; have := HA2.out; have := HC2.out; omega
        · exfalso; have := HXA.out; have := HA2.out; have := HC2.out; omega
  · have n3 : decide ((m : Int) > (mid : Int)) = false := decide_eq_false (by omega)
    have n4 : decide ((mid : Int) < (m : Int)) = false := decide_eq_false (by omega)
    obtain ⟨lo, hlo⟩ : ∃ lo, lo = a := ⟨_, rfl⟩
    obtain ⟨hi, hhi⟩ : ∃ hi, hi = m := ⟨_, rfl⟩
    have HLO : Hid ((mid < m ∧ lo = mid + m - b ∧ b ≤ mid + m ∧ hi = mid) ∨ (m ≤ mid ∧ lo = a ∧ hi = m)) := Lib.hid (Or.inr ⟨by omega, hlo, hhi⟩)
    have hlo1 : mid + m ≤ lo + b := by omega
    have hlo2 : a ≤ lo := by omega
    have hlh : lo ≤ hi := by omega
    have hhi1 : hi ≤ m := by omega
    have hhi2 : hi ≤ mid := by omega
    have hp1 : mid + m - 1 + 1 = mid + m := by omega
    have hp2 : m ≤ mid + m - 1 := by omega
    have HHI := Lib.hid hhi
    have HLE := Lib.hid hlo
    clear hmid hlo hhi
    obtain ⟨p, hpe⟩ : ∃ p, p = mid + m - 1 := ⟨_, rfl⟩
    obtain ⟨nn, hne⟩ : ∃ nn, nn = mid + m := ⟨_, rfl⟩
    rw [← hpe] at e5 hp1 hp2 HQQ HQL
    rw [← hne] at e4 e5 hp1 hlo1 hm3
    have HPE := Lib.hid hpe
    have HNE := Lib.hid hne
    clear hpe hne
    go_enter Tryd.func87, Tryd.ntmps87
    go_wp2
    go_loopw [20, 21] (fun q r wr => ∃ i j : Nat, q = .int .i64 (i : Int) ∧ r = .int .i64 (j : Int) ∧ Bs qq lo hi i j ∧ wr.ownsRow B 2 1 (.slice (some ⟨g, 0, none⟩) n c) n (nats l) ∧ w0.grownBy wr (some g) ∧ w.grownBy wr (some g)) (fun q r _ => (intOf r - intOf q).toNat)
    case atStart => exact ⟨lo, hi, by rw [HLE.out], by rw [HHI.out], Bs.start hlh, hown, hbl, World.grownBy.refl _ _⟩
    case round =>
      clear hown hbl e1 e2 e3 e4 e5 n1 n2 n3 n4
      obtain ⟨i, j, rfl, rfl, hbs, hown, hbl, hg⟩ := hrel
      have HBS := Lib.hid hbs
      obtain ⟨k1, k2, k3, -, -⟩ := hbs
      by_cases hij : i < j
      · obtain ⟨h, hh⟩ : ∃ h, h = (i + j) / 2 := ⟨_, rfl⟩
        have hh1 : i ≤ h := by omega
        have hh2 : h < j := by omega
        have s2 : ((i : Int) + (j : Int)) / 2 = (h : Int) := by omega
        have hijn : i + j ≤ 8192 := by omega
        obtain ⟨r, hr⟩ : ∃ r, r = p - h := ⟨_, rfl⟩
        have hrn : r < n := by omega
        have s3 : IntKind.i64.wrap ((p : Int) - (h : Int)) = (r : Int) := by rw [hr, Int.ofNat_sub (by omega)]; exact IntWalk.i64_in _ (by omega)
        have s4 : (p : Int) - (h : Int) = (r : Int) := by omega
        have hqh := HQQ.out h
        rw [← hr] at hqh
        have HQH := Lib.hid hqh
        clear hh hr hqh
        have c1 := hown.cellAt r (by omega)
        have c2 := hown.cellAt h (by omega)
        rw [nats_get l _ (by rw [HL.out]; omega)] at c1 c2
        have hx := getNat HMN.out r (by rw [HL.out]; omega)
        have hy := getNat HMN.out h (by rw [HL.out]; omega)
        have hbd : ∀ q, w0.grownBy (wr.drewN q) (some g) := fun q => grown_drewN hbl q
        have HCC := HCL.out
        have hcc : ∀ q, Calls Tryd.prog 52 #[.int .i64 ((l[r]?.getD 0 : Nat) : Int), .int .i64 ((l[h]?.getD 0 : Nat) : Int), cp] (wr.drewN q) fun e w' => e = .returned (.int .i64 (cf (l[r]?.getD 0) (l[h]?.getD 0))) ∧ ∃ mq, w' = (wr.drewN q).drewN mq := fun q => HCC _ _ _ (hbd q) hx hy
        clear HCC hbd
        have hk2 := HCF.out _ _ hx hy
        have HUP : Hid (lt (l[r]?.getD 0) (l[h]?.getD 0) = false → Bs qq lo hi (h + 1) j) := Lib.hid fun hq => HBS.out.up hh1 hh2 (HQH.out.trans (by rw [hq]; rfl))
        have HDN : Hid (lt (l[r]?.getD 0) (l[h]?.getD 0) = true → Bs qq lo hi i h) := Lib.hid fun hq => HBS.out.down hh1 hh2 (HQH.out.trans (by rw [hq]; rfl))
        have hhn : (h : Int) < (n : Int) := by omega
        have hrn' : (r : Int) < (n : Int) := by omega
        generalize l[r]?.getD 0 = u at *
        generalize l[h]?.getD 0 = v at *
        generalize cf u v = z at *
        clear HBS HQH
        cases hlt2 : lt u v
        · rw [hlt2] at hk2 HUP
          have HE := Lib.hid (HUP.out rfl)
          clear hlt2 HUP HDN
          go_wp2
          go_quiet ((go_at_call 52; exact Calls.quiet_of (hcc _)))
          go_wp2
          go_roundw
          case rel => exact ⟨h + 1, j, by go_num, rfl, HE.out, own_drewN hown _, grown_drewN hbl _, grown_drewN hg _⟩
          case measure => simp only [intOf]; omega
        · rw [hlt2] at hk2 HDN
          have HE := Lib.hid (HDN.out rfl)
          clear hlt2 HUP HDN
          go_wp2
          go_quiet ((go_at_call 52; exact Calls.quiet_of (hcc _)))
          go_wp2
          go_roundw
          case rel => exact ⟨i, h, rfl, rfl, HE.out, own_drewN hown _, grown_drewN hbl _, grown_drewN hg _⟩
          case measure => simp only [intOf]; omega
      · obtain rfl : i = j := by omega
        obtain ⟨x, y, hs, he, hx, hy, hxy, hcut⟩ := symCut hsw HLL.out HA.out HM.out HB.out HAS.out HCS.out HMID.out HLO.out hlo2 (by have := HBS.out; rw [HQL.out, HPE.out] at this; exact this)
        rw [← HNE.out] at he
        obtain ⟨en, hen⟩ : ∃ en, en = nn - i := ⟨_, rfl⟩
        have hnn := HNE.out
        have hMM := HM.out
        have hBB := HB.out
        have e8 : IntKind.i64.wrap ((nn : Int) - (i : Int)) = (en : Int) := by rw [hen, Int.ofNat_sub (by omega)]; exact IntWalk.i64_in _ (by omega)
        have HCUT := Lib.hid hcut
        have HRR : Hid (Rot l m (m - i) (en - m) (P ++ (A.take x ++ (C.take y ++ (A.drop x ++ (C.drop y ++ S)))))) := Lib.hid (by
          have := symRot P A C S m x y (by rw [HA.out]; exact HM.out) hx hy
          rw [← HLL.out, show A.length - x = m - i by omega, show y = en - m by omega] at this
          rw [show y = en - m by omega]
          exact this)
        have HR : Hid (i < m → m < en → Calls Tryd.prog 95 #[.slice (some ⟨g, 0, none⟩) n c, .int .i64 (i : Int), .int .i64 (m : Int), .int .i64 (en : Int), .func (.func 52) #[] #[cp]] wr fun e w' => e = .returned (.tuple #[]) ∧ w'.ownsRow B 2 1 (.slice (some ⟨g, 0, none⟩) n c) n (nats (symL1 P A C S x y)) ∧ wr.grownBy w' (some g)) := Lib.hid fun h1 h2 => rotI_any (some ⟨g, 0, none⟩) c B n i m en l _ wr _ HL.out h1 h2 (by omega) HRR.out hn hown
        have R1 : Hid (∀ W, W.ownsRow B 2 1 (.slice (some ⟨g, 0, none⟩) n c) n (nats (symL1 P A C S x y)) → w0.grownBy W (some g) → a < i → i < mid → Calls Tryd.prog 87 #[.slice (some ⟨g, 0, none⟩) n c, .int .i64 (a : Int), .int .i64 (i : Int), .int .i64 (mid : Int), .func (.func 52) #[] #[cp]] W fun e w' => e = .returned (.tuple #[]) ∧ w'.ownsRow B 2 1 (.slice (some ⟨g, 0, none⟩) n c) n (nats (symL2 lt P A C S x y)) ∧ w0.grownBy w' (some g) ∧ W.grownBy w' (some g)) :=
          Lib.hid fun W hW hWb h1 h2 => HIH.out P (A.take x) (C.take y) (A.drop x ++ (C.drop y ++ S)) _ W a i mid (by have := HK.out; simp; omega) (by simp; omega) (by simp; omega) rfl (by rw [symL1_len, ← HLL.out, HL.out]) (symL1_mem (by rw [← HLL.out]; exact HMN.out)) HA.out (by simp; omega) (by simp; omega) (HAS.out.sublist (List.take_sublist _ _)) (HCS.out.sublist (List.take_sublist _ _)) hW hWb
        have R2 : Hid (∀ W, W.ownsRow B 2 1 (.slice (some ⟨g, 0, none⟩) n c) n (nats (symL2 lt P A C S x y)) → w0.grownBy W (some g) → mid < en → en < b → Calls Tryd.prog 87 #[.slice (some ⟨g, 0, none⟩) n c, .int .i64 (mid : Int), .int .i64 (en : Int), .int .i64 (b : Int), .func (.func 52) #[] #[cp]] W fun e w' => e = .returned (.tuple #[]) ∧ w'.ownsRow B 2 1 (.slice (some ⟨g, 0, none⟩) n c) n (nats (P ++ (mrg lt A C ++ S))) ∧ w0.grownBy w' (some g) ∧ W.grownBy w' (some g)) :=
          Lib.hid fun W hW hWb h1 h2 => by
            have := HIH.out (P ++ mrg lt (A.take x) (C.take y)) (A.drop x) (C.drop y) S _ W mid en b (by have := HK.out; simp; omega) (by simp; omega) (by simp; omega) rfl (by rw [List.append_assoc]; exact (symL2_len lt P A C S x y).trans (by rw [← HLL.out, HL.out])) (by rw [List.append_assoc]; exact symL2_mem (by rw [← HLL.out]; exact HMN.out)) (by have := HA.out; rw [List.length_append, mrg_len]; simp; omega) (by simp; omega) (by simp; omega) (HAS.out.sublist (List.drop_sublist _ _)) (HCS.out.sublist (List.drop_sublist _ _)) (by rw [List.append_assoc]; exact hW) hWb
            rw [hcut]
            simp only [List.append_assoc] at this ⊢
            exact this
        have hsz : g < wr.heap.size := Nat.lt_of_lt_of_le hgl hg.size
        have q1 : i < m ↔ mid < en := by omega
        have q2 : m < en ↔ i < mid := by omega
        have HXA : Hid (i = a + x ∧ m = a + A.length ∧ en = m + y ∧ b = m + C.length ∧ mid = a + x + y ∧ x ≤ A.length ∧ y ≤ C.length) := Lib.hid (by omega)
        clear hs he hx hy hxy hnn hMM hBB hen hcut HBS k1 k2 k3
        by_cases h1 : i < m <;> by_cases h2 : m < en <;> by_cases h3 : a < i <;> by_cases h4 : en < b
        · have h5 := q1.1 h1
          have h6 := q2.1 h2
          clear q1 q2
          go_wp2_with (first | (go_at_call 87; refine (R2.out _ ho2 hb2 h5 h4).mono ?_; rintro e w3 ⟨rfl, ho3, hb3, hg3⟩) | (go_at_call 87; refine (R1.out _ ho1 (grownBy_trans hbl hg1) h3 h6).mono ?_; rintro e w2 ⟨rfl, ho2, hb2, hg2⟩) | (go_at_call 95; refine (HR.out h1 h2).mono ?_; rintro e w1 ⟨rfl, ho1, hg1⟩))
          go_end0
          exact ⟨rfl, ho3, hb3, grownBy_trans hg (grownBy_trans hg1 (grownBy_trans hg2 hg3))⟩
        · have h5 := q1.1 h1
          have h6 := q2.1 h2
          have htwo := symTwo (P := P) (S := S) HCUT.out (by have := HXA.out; omega)
          clear q1 q2
          go_wp2_with (first | (go_at_call 87; refine (R1.out _ ho1 (grownBy_trans hbl hg1) h3 h6).mono ?_; rintro e w2 ⟨rfl, ho2, hb2, hg2⟩) | (go_at_call 95; refine (HR.out h1 h2).mono ?_; rintro e w1 ⟨rfl, ho1, hg1⟩))
          go_end0
          exact ⟨rfl, by rw [← htwo]; exact ho2, hb2, grownBy_trans hg (grownBy_trans hg1 hg2)⟩
        · have h5 := q1.1 h1
          have h6 := q2.1 h2
          have hone := symOne lt P A C S x y (by have := HXA.out; omega)
          clear q1 q2
          go_wp2_with (first | (go_at_call 87; refine (R2.out _ (by rw [← hone]; exact ho1) (grownBy_trans hbl hg1) h5 h4).mono ?_; rintro e w3 ⟨rfl, ho3, hb3, hg3⟩) | (go_at_call 95; refine (HR.out h1 h2).mono ?_; rintro e w1 ⟨rfl, ho1, hg1⟩))
          go_end0
          exact ⟨rfl, ho3, hb3, grownBy_trans hg (grownBy_trans hg1 hg3)⟩
        · have h5 := q1.1 h1
          have h6 := q2.1 h2
          have hone := symOne lt P A C S x y (by have := HXA.out; omega)
          have htwo := symTwo (P := P) (S := S) HCUT.out (by have := HXA.out; omega)
          clear q1 q2
          go_wp2_with ((go_at_call 95; refine (HR.out h1 h2).mono ?_; rintro e w1 ⟨rfl, ho1, hg1⟩))
          go_end0
          exact ⟨rfl, by rw [← htwo, ← hone]; exact ho1, (grownBy_trans hbl hg1), grownBy_trans hg hg1⟩
        · have h5 := q1.1 h1
          have h6 : ¬ i < mid := fun h => h2 (q2.2 h)
          have hst : symL1 P A C S x y = l := (symStay P A C S x y (by have := HXA.out; omega) (by have := HXA.out; omega)).trans HLL.out.symm
          have ho1 : wr.ownsRow B 2 1 (.slice (some ⟨g, 0, none⟩) n c) n (nats (symL1 P A C S x y)) := by rw [hst]; exact hown
          have hone := symOne lt P A C S x y (by have := HXA.out; omega)
          clear q1 q2 hst
          go_wp2_with ((go_at_call 87; refine (R2.out _ (by rw [← hone]; exact ho1) hbl h5 h4).mono ?_; rintro e w3 ⟨rfl, ho3, hb3, hg3⟩))
          go_end0
          exact ⟨rfl, ho3, hb3, grownBy_trans hg hg3⟩
        · exfalso; have := HXA.out; have := HA2.out; have := HC2.out; omega
        · exfalso; have := HXA.out; have := HA2.out; have := HC2.out; omega
        · exfalso; have := HXA.out; have := HA2.out; have := HC2.out; omega
        · have h5 : ¬ mid < en := fun h => h1 (q1.2 h)
          have h6 := q2.1 h2
          have hst : symL1 P A C S x y = l := (symStay P A C S x y (by have := HXA.out; omega) (by have := HXA.out; omega)).trans HLL.out.symm
          have ho1 : wr.ownsRow B 2 1 (.slice (some ⟨g, 0, none⟩) n c) n (nats (symL1 P A C S x y)) := by rw [hst]; exact hown
          have htwo := symTwo (P := P) (S := S) HCUT.out (by have := HXA.out; omega)
          clear q1 q2 hst
          go_wp2_with ((go_at_call 87; refine (R1.out _ ho1 hbl h3 h6).mono ?_; rintro e w2 ⟨rfl, ho2, hb2, hg2⟩))
          go_end0
          exact ⟨rfl, by rw [← htwo]; exact ho2, hb2, grownBy_trans hg hg2⟩
        · exfalso; have := HXA.out; have := HA2.out; have := HC2.out; omega
        · exfalso; have := HXA.out; have := HA2.out; have := HC2.out; omega
        · exfalso; have := HXA.out; have := HA2.out; have := HC2.out; omega
        · have h5 : ¬ mid < en := fun h => h1 (q1.2 h)
          have h6 : ¬ i < mid := fun h => h2 (q2.2 h)
          have hst : symL1 P A C S x y = l := (symStay P A C S x y (by have := HXA.out; omega) (by have := HXA.out; omega)).trans HLL.out.symm
          have ho1 : wr.ownsRow B 2 1 (.slice (some ⟨g, 0, none⟩) n c) n (nats (symL1 P A C S x y)) := by rw [hst]; exact hown
          have hone := symOne lt P A C S x y (by have := HXA.out; omega)
          have htwo := symTwo (P := P) (S := S) HCUT.out (by have := HXA.out; omega)
          clear q1 q2 hst
          go_wp2
          go_end0
          exact ⟨rfl, by rw [← htwo, ← hone]; exact ho1, hbl, hg⟩
        · exfalso; have := HXA.out; have := HA2.out; have := HC2.out; omega
        · exfalso; have := HXA.out; have := HA2.out; have := HC2.out; omega
        · exfalso; have := HXA.out; have := HA2.out; have := HC2.out; omega
/-- The merge of parts of at most k elements together. -/
def SymKBack (k n N B g c : Nat) (cp : Value) (w0 : World) (lt : Nat → Nat → Bool) : Prop :=
  ∀ (P A C S l : List Nat) (w : World) (a m b : Nat), A.length + C.length ≤ k → 1 ≤ A.length → 1 ≤ C.length → l = P ++ (A ++ (C ++ S)) → l.length = n → (∀ x ∈ l, x < N) → P.length = a → a + A.length = m → m + C.length = b → A.Pairwise (NS lt) → C.Pairwise (NS lt) →
    w.ownsRow B 2 1 (.slice (some ⟨g, 0, none⟩) n c) n (nats l) → w0.grownBy w (some g) →
    Calls Tryd.prog 87 #[.slice (some ⟨g, 0, none⟩) n c, .int .i64 (a : Int), .int .i64 (m : Int), .int .i64 (b : Int), .func (.func 54) #[] #[cp]] w fun e w' => e = .returned (.tuple #[]) ∧ w'.ownsRow B 2 1 (.slice (some ⟨g, 0, none⟩) n c) n (nats (P ++ (mrg lt A C ++ S))) ∧ w0.grownBy w' (some g) ∧ w.grownBy w' (some g)

set_option maxRecDepth 4000 in
set_option maxHeartbeats 4000000 in
theorem symSBack_any {g : Nat} (cp : Value) (B N n : Nat) (w0 : World) (cf : Nat → Nat → Int) (lt : Nat → Nat → Bool) (hsw : SW lt) (hcf : ∀ x y, x < N → y < N → decide (cf x y < 0) = lt x y) (hcl : ClG Tryd.prog 54 cp (some g) N w0 cf) (c k : Nat) (hn : n ≤ 4096) (IH : SymKBack k n N B g c cp w0 lt) :
    SymKBack (k + 1) n N B g c cp w0 lt := by
  intro P A C S l w a m b hk hA1 hC1 hl hln hN ha hm hb hAs hCs hown hbl
  by_cases hA2 : A.length = 1
  · obtain ⟨x, rfl⟩ := List.length_eq_one_iff.1 hA2
    have := symABack_any cp B N n a b w0 w cf lt hsw hcf hcl c P C S x l (by simpa using hl) hln hN ha (by simp at hm; omega) hCs hn hown hbl
    rw [show a + 1 = m by simpa using hm, List.append_assoc] at this
    exact this
  by_cases hC2 : C.length = 1
  · obtain ⟨x, rfl⟩ := List.length_eq_one_iff.1 hC2
    have := symBBack_any cp B N n a m w0 w cf lt hsw hcf hcl c P A S x l (by simpa using hl) hln hN ha hm (by omega) hAs hn hown hbl
    rw [show m + 1 = b by simpa using hb, List.append_assoc] at this
    exact this
  have hgl := size_at (w0 := w0) hown (by have := congrArg List.length hl; simp at this; omega)
  have hBg : B ≤ g := by
    obtain ⟨g', e, h2, -⟩ := own_some hown (by have := congrArg List.length hl; simp at this; omega)
    cases e; exact h2
  have hbn : b ≤ n := by have := congrArg List.length hl; simp at this; omega
  have HCL := Lib.hid hcl
  have HCF := Lib.hid hcf
  have HIH := Lib.hid IH
  have HL := Lib.hid hln
  have HLL := Lib.hid hl
  have HMN := Lib.hid hN
  have HA := Lib.hid ha
  have HM := Lib.hid hm
  have HB := Lib.hid hb
  have HAS := Lib.hid hAs
  have HCS := Lib.hid hCs
  have HK := Lib.hid hk
  have HA2 : Hid (2 ≤ A.length) := Lib.hid (by omega)
  have HC2 : Hid (2 ≤ C.length) := Lib.hid (by omega)
  have ham : a + 2 ≤ m := by omega
  have hmb : m + 2 ≤ b := by omega
  clear hcl hcf IH hl hln hN ha hm hb hAs hCs hk hA1 hC1 hA2 hC2
  obtain ⟨d1, hd1⟩ : ∃ d, d = m - a := ⟨_, rfl⟩
  obtain ⟨d2, hd2⟩ : ∃ d, d = b - m := ⟨_, rfl⟩
  have e1 : IntKind.i64.wrap ((m : Int) - (a : Int)) = (d1 : Int) := by rw [hd1, Int.ofNat_sub (by omega)]; exact IntWalk.i64_in _ (by omega)
  have e2 : IntKind.i64.wrap ((b : Int) - (m : Int)) = (d2 : Int) := by rw [hd2, Int.ofNat_sub (by omega)]; exact IntWalk.i64_in _ (by omega)
  have n1 : ((d1 : Int) == 1) = false := beq_false_of_ne (by omega)
  have n2 : ((d2 : Int) == 1) = false := beq_false_of_ne (by omega)
  clear hd1 hd2
  obtain ⟨mid, hmid⟩ : ∃ mid, mid = (a + b) / 2 := ⟨_, rfl⟩
  have HMID := Lib.hid hmid
  have e3 : ((a : Int) + (b : Int)) / 2 = (mid : Int) := by omega
  have hm1 : a < mid := by omega
  have hm2 : mid < b := by omega
  have hm3 : mid + m ≤ a + b + (m - a) := by omega
  obtain ⟨qq, hqq⟩ : ∃ qq : Nat → Bool, qq = fun c : Nat => !(lt (l[mid + m - 1 - c]?.getD 0) (l[c]?.getD 0)) := ⟨_, rfl⟩
  have HQQ : Hid (∀ c, qq c = !(lt (l[mid + m - 1 - c]?.getD 0) (l[c]?.getD 0))) := Lib.hid fun c => by rw [hqq]
  have HQL := Lib.hid hqq
  clear hqq
  have e4 : IntKind.i64.wrap ((mid : Int) + (m : Int)) = ((mid + m : Nat) : Int) := by rw [Int.natCast_add]; exact IntWalk.i64_in _ (by omega)
  have e5 : IntKind.i64.wrap (((mid + m : Nat) : Int) - 1) = ((mid + m - 1 : Nat) : Int) := by rw [Int.ofNat_sub (by omega)]; exact IntWalk.i64_in _ (by omega)
  by_cases hlow : mid < m
  · have n3 : decide ((m : Int) > (mid : Int)) = true := decide_eq_true (by omega)
    have n4 : decide ((mid : Int) < (m : Int)) = true := decide_eq_true (by omega)
    have e6 : IntKind.i64.wrap (((mid + m : Nat) : Int) - (b : Int)) = ((mid + m - b : Nat) : Int) := by rw [Int.ofNat_sub (by omega)]; exact IntWalk.i64_in _ (by omega)
    obtain ⟨lo, hlo⟩ : ∃ lo, lo = mid + m - b := ⟨_, rfl⟩
    obtain ⟨hi, hhi⟩ : ∃ hi, hi = mid := ⟨_, rfl⟩
    have HLO : Hid ((mid < m ∧ lo = mid + m - b ∧ b ≤ mid + m ∧ hi = mid) ∨ (m ≤ mid ∧ lo = a ∧ hi = m)) := Lib.hid (Or.inl ⟨hlow, hlo, by omega, hhi⟩)
    have hlo1 : mid + m ≤ lo + b := by omega
    have hlo2 : a ≤ lo := by omega
    have hlh : lo ≤ hi := by omega
    have hhi1 : hi ≤ m := by omega
    have hhi2 : hi ≤ mid := by omega
    have hp1 : mid + m - 1 + 1 = mid + m := by omega
    have hp2 : m ≤ mid + m - 1 := by omega
    have HHI := Lib.hid hhi
    rw [← hlo] at e6
    clear hmid hlo hhi
    obtain ⟨p, hpe⟩ : ∃ p, p = mid + m - 1 := ⟨_, rfl⟩
    obtain ⟨nn, hne⟩ : ∃ nn, nn = mid + m := ⟨_, rfl⟩
    rw [← hpe] at e5 hp1 hp2 HQQ HQL
    rw [← hne] at e4 e5 e6 hp1 hlo1 hm3
    have HPE := Lib.hid hpe
    have HNE := Lib.hid hne
    clear hpe hne
    go_enter Tryd.func87, Tryd.ntmps87
    go_wp2
    go_loopw [20, 21] (fun q r wr => ∃ i j : Nat, q = .int .i64 (i : Int) ∧ r = .int .i64 (j : Int) ∧ Bs qq lo hi i j ∧ wr.ownsRow B 2 1 (.slice (some ⟨g, 0, none⟩) n c) n (nats l) ∧ w0.grownBy wr (some g) ∧ w.grownBy wr (some g)) (fun q r _ => (intOf r - intOf q).toNat)
    case atStart => exact ⟨lo, hi, rfl, by rw [HHI.out], Bs.start hlh, hown, hbl, World.grownBy.refl _ _⟩
    case round =>
      clear hown hbl e1 e2 e3 e4 e5 e6 n1 n2 n3 n4
      obtain ⟨i, j, rfl, rfl, hbs, hown, hbl, hg⟩ := hrel
      have HBS := Lib.hid hbs
      obtain ⟨k1, k2, k3, -, -⟩ := hbs
      by_cases hij : i < j
      · obtain ⟨h, hh⟩ : ∃ h, h = (i + j) / 2 := ⟨_, rfl⟩
        have hh1 : i ≤ h := by omega
        have hh2 : h < j := by omega
        have s2 : ((i : Int) + (j : Int)) / 2 = (h : Int) := by omega
        have hijn : i + j ≤ 8192 := by omega
        obtain ⟨r, hr⟩ : ∃ r, r = p - h := ⟨_, rfl⟩
        have hrn : r < n := by omega
        have s3 : IntKind.i64.wrap ((p : Int) - (h : Int)) = (r : Int) := by rw [hr, Int.ofNat_sub (by omega)]; exact IntWalk.i64_in _ (by omega)
        have s4 : (p : Int) - (h : Int) = (r : Int) := by omega
        have hqh := HQQ.out h
        rw [← hr] at hqh
        have HQH := Lib.hid hqh
        clear hh hr hqh
        have c1 := hown.cellAt r (by omega)
        have c2 := hown.cellAt h (by omega)
        rw [nats_get l _ (by rw [HL.out]; omega)] at c1 c2
        have hx := getNat HMN.out r (by rw [HL.out]; omega)
        have hy := getNat HMN.out h (by rw [HL.out]; omega)
        have hbd : ∀ q, w0.grownBy (wr.drewN q) (some g) := fun q => grown_drewN hbl q
        have HCC := HCL.out
        have hcc : ∀ q, Calls Tryd.prog 54 #[.int .i64 ((l[r]?.getD 0 : Nat) : Int), .int .i64 ((l[h]?.getD 0 : Nat) : Int), cp] (wr.drewN q) fun e w' => e = .returned (.int .i64 (cf (l[r]?.getD 0) (l[h]?.getD 0))) ∧ ∃ mq, w' = (wr.drewN q).drewN mq := fun q => HCC _ _ _ (hbd q) hx hy
        clear HCC hbd
        have hk2 := HCF.out _ _ hx hy
        have HUP : Hid (lt (l[r]?.getD 0) (l[h]?.getD 0) = false → Bs qq lo hi (h + 1) j) := Lib.hid fun hq => HBS.out.up hh1 hh2 (HQH.out.trans (by rw [hq]; rfl))
        have HDN : Hid (lt (l[r]?.getD 0) (l[h]?.getD 0) = true → Bs qq lo hi i h) := Lib.hid fun hq => HBS.out.down hh1 hh2 (HQH.out.trans (by rw [hq]; rfl))
        have hhn : (h : Int) < (n : Int) := by omega
        have hrn' : (r : Int) < (n : Int) := by omega
        generalize l[r]?.getD 0 = u at *
        generalize l[h]?.getD 0 = v at *
        generalize cf u v = z at *
        clear HBS HQH
        cases hlt2 : lt u v
        · rw [hlt2] at hk2 HUP
          have HE := Lib.hid (HUP.out rfl)
          clear hlt2 HUP HDN
          go_wp2
          go_quiet ((go_at_call 54; exact Calls.quiet_of (hcc _)))
          go_wp2
          go_roundw
          case rel => exact ⟨h + 1, j, by go_num, rfl, HE.out, own_drewN hown _, grown_drewN hbl _, grown_drewN hg _⟩
          case measure => simp only [intOf]; omega
        · rw [hlt2] at hk2 HDN
          have HE := Lib.hid (HDN.out rfl)
          clear hlt2 HUP HDN
          go_wp2
          go_quiet ((go_at_call 54; exact Calls.quiet_of (hcc _)))
          go_wp2
          go_roundw
          case rel => exact ⟨i, h, rfl, rfl, HE.out, own_drewN hown _, grown_drewN hbl _, grown_drewN hg _⟩
          case measure => simp only [intOf]; omega
      · obtain rfl : i = j := by omega
        obtain ⟨x, y, hs, he, hx, hy, hxy, hcut⟩ := symCut hsw HLL.out HA.out HM.out HB.out HAS.out HCS.out HMID.out HLO.out hlo2 (by have := HBS.out; rw [HQL.out, HPE.out] at this; exact this)
        rw [← HNE.out] at he
        obtain ⟨en, hen⟩ : ∃ en, en = nn - i := ⟨_, rfl⟩
        have hnn := HNE.out
        have hMM := HM.out
        have hBB := HB.out
        have e8 : IntKind.i64.wrap ((nn : Int) - (i : Int)) = (en : Int) := by rw [hen, Int.ofNat_sub (by omega)]; exact IntWalk.i64_in _ (by omega)
        have HCUT := Lib.hid hcut
        have HRR : Hid (Rot l m (m - i) (en - m) (P ++ (A.take x ++ (C.take y ++ (A.drop x ++ (C.drop y ++ S)))))) := Lib.hid (by
          have := symRot P A C S m x y (by rw [HA.out]; exact HM.out) hx hy
          rw [← HLL.out, show A.length - x = m - i by omega, show y = en - m by omega] at this
          rw [show y = en - m by omega]
          exact this)
        have HR : Hid (i < m → m < en → Calls Tryd.prog 95 #[.slice (some ⟨g, 0, none⟩) n c, .int .i64 (i : Int), .int .i64 (m : Int), .int .i64 (en : Int), .func (.func 54) #[] #[cp]] wr fun e w' => e = .returned (.tuple #[]) ∧ w'.ownsRow B 2 1 (.slice (some ⟨g, 0, none⟩) n c) n (nats (symL1 P A C S x y)) ∧ wr.grownBy w' (some g)) := Lib.hid fun h1 h2 => rotI_any (some ⟨g, 0, none⟩) c B n i m en l _ wr _ HL.out h1 h2 (by omega) HRR.out hn hown
        have R1 : Hid (∀ W, W.ownsRow B 2 1 (.slice (some ⟨g, 0, none⟩) n c) n (nats (symL1 P A C S x y)) → w0.grownBy W (some g) → a < i → i < mid → Calls Tryd.prog 87 #[.slice (some ⟨g, 0, none⟩) n c, .int .i64 (a : Int), .int .i64 (i : Int), .int .i64 (mid : Int), .func (.func 54) #[] #[cp]] W fun e w' => e = .returned (.tuple #[]) ∧ w'.ownsRow B 2 1 (.slice (some ⟨g, 0, none⟩) n c) n (nats (symL2 lt P A C S x y)) ∧ w0.grownBy w' (some g) ∧ W.grownBy w' (some g)) :=
          Lib.hid fun W hW hWb h1 h2 => HIH.out P (A.take x) (C.take y) (A.drop x ++ (C.drop y ++ S)) _ W a i mid (by have := HK.out; simp; omega) (by simp; omega) (by simp; omega) rfl (by rw [symL1_len, ← HLL.out, HL.out]) (symL1_mem (by rw [← HLL.out]; exact HMN.out)) HA.out (by simp; omega) (by simp; omega) (HAS.out.sublist (List.take_sublist _ _)) (HCS.out.sublist (List.take_sublist _ _)) hW hWb
        have R2 : Hid (∀ W, W.ownsRow B 2 1 (.slice (some ⟨g, 0, none⟩) n c) n (nats (symL2 lt P A C S x y)) → w0.grownBy W (some g) → mid < en → en < b → Calls Tryd.prog 87 #[.slice (some ⟨g, 0, none⟩) n c, .int .i64 (mid : Int), .int .i64 (en : Int), .int .i64 (b : Int), .func (.func 54) #[] #[cp]] W fun e w' => e = .returned (.tuple #[]) ∧ w'.ownsRow B 2 1 (.slice (some ⟨g, 0, none⟩) n c) n (nats (P ++ (mrg lt A C ++ S))) ∧ w0.grownBy w' (some g) ∧ W.grownBy w' (some g)) :=
          Lib.hid fun W hW hWb h1 h2 => by
            have := HIH.out (P ++ mrg lt (A.take x) (C.take y)) (A.drop x) (C.drop y) S _ W mid en b (by have := HK.out; simp; omega) (by simp; omega) (by simp; omega) rfl (by rw [List.append_assoc]; exact (symL2_len lt P A C S x y).trans (by rw [← HLL.out, HL.out])) (by rw [List.append_assoc]; exact symL2_mem (by rw [← HLL.out]; exact HMN.out)) (by have := HA.out; rw [List.length_append, mrg_len]; simp; omega) (by simp; omega) (by simp; omega) (HAS.out.sublist (List.drop_sublist _ _)) (HCS.out.sublist (List.drop_sublist _ _)) (by rw [List.append_assoc]; exact hW) hWb
            rw [hcut]
            simp only [List.append_assoc] at this ⊢
            exact this
        have hsz : g < wr.heap.size := Nat.lt_of_lt_of_le hgl hg.size
        have q1 : i < m ↔ mid < en := by omega
        have q2 : m < en ↔ i < mid := by omega
        have HXA : Hid (i = a + x ∧ m = a + A.length ∧ en = m + y ∧ b = m + C.length ∧ mid = a + x + y ∧ x ≤ A.length ∧ y ≤ C.length) := Lib.hid (by omega)
        clear hs he hx hy hxy hnn hMM hBB hen hcut HBS k1 k2 k3
        by_cases h1 : i < m <;> by_cases h2 : m < en <;> by_cases h3 : a < i <;> by_cases h4 : en < b
        · have h5 := q1.1 h1
          have h6 := q2.1 h2
          clear q1 q2
          go_wp2_with (first | (go_at_call 87; refine (R2.out _ ho2 hb2 h5 h4).mono ?_; rintro e w3 ⟨rfl, ho3, hb3, hg3⟩) | (go_at_call 87; refine (R1.out _ ho1 (grownBy_trans hbl hg1) h3 h6).mono ?_; rintro e w2 ⟨rfl, ho2, hb2, hg2⟩) | (go_at_call 95; refine (HR.out h1 h2).mono ?_; rintro e w1 ⟨rfl, ho1, hg1⟩))
          go_end0
          exact ⟨rfl, ho3, hb3, grownBy_trans hg (grownBy_trans hg1 (grownBy_trans hg2 hg3))⟩
        · have h5 := q1.1 h1
          have h6 := q2.1 h2
          have htwo := symTwo (P := P) (S := S) HCUT.out (by have := HXA.out; omega)
          clear q1 q2
          go_wp2_with (first | (go_at_call 87; refine (R1.out _ ho1 (grownBy_trans hbl hg1) h3 h6).mono ?_; rintro e w2 ⟨rfl, ho2, hb2, hg2⟩) | (go_at_call 95; refine (HR.out h1 h2).mono ?_; rintro e w1 ⟨rfl, ho1, hg1⟩))
          go_end0
          exact ⟨rfl, by rw [← htwo]; exact ho2, hb2, grownBy_trans hg (grownBy_trans hg1 hg2)⟩
        · have h5 := q1.1 h1
          have h6 := q2.1 h2
          have hone := symOne lt P A C S x y (by have := HXA.out; omega)
          clear q1 q2
          go_wp2_with (first | (go_at_call 87; refine (R2.out _ (by rw [← hone]; exact ho1) (grownBy_trans hbl hg1) h5 h4).mono ?_; rintro e w3 ⟨rfl, ho3, hb3, hg3⟩) | (go_at_call 95; refine (HR.out h1 h2).mono ?_; rintro e w1 ⟨rfl, ho1, hg1⟩))
          go_end0
          exact ⟨rfl, ho3, hb3, grownBy_trans hg (grownBy_trans hg1 hg3)⟩
        · have h5 := q1.1 h1
          have h6 := q2.1 h2
          have hone := symOne lt P A C S x y (by have := HXA.out; omega)
          have htwo := symTwo (P := P) (S := S) HCUT.out (by have := HXA.out; omega)
          clear q1 q2
          go_wp2_with ((go_at_call 95; refine (HR.out h1 h2).mono ?_; rintro e w1 ⟨rfl, ho1, hg1⟩))
          go_end0
          exact ⟨rfl, by rw [← htwo, ← hone]; exact ho1, (grownBy_trans hbl hg1), grownBy_trans hg hg1⟩
        · have h5 := q1.1 h1
          have h6 : ¬ i < mid := fun h => h2 (q2.2 h)
          have hst : symL1 P A C S x y = l := (symStay P A C S x y (by have := HXA.out; omega) (by have := HXA.out; omega)).trans HLL.out.symm
          have ho1 : wr.ownsRow B 2 1 (.slice (some ⟨g, 0, none⟩) n c) n (nats (symL1 P A C S x y)) := by rw [hst]; exact hown
          have hone := symOne lt P A C S x y (by have := HXA.out; omega)
          clear q1 q2 hst
          go_wp2_with ((go_at_call 87; refine (R2.out _ (by rw [← hone]; exact ho1) hbl h5 h4).mono ?_; rintro e w3 ⟨rfl, ho3, hb3, hg3⟩))
          go_end0
          exact ⟨rfl, ho3, hb3, grownBy_trans hg hg3⟩
        · exfalso; have := HXA.out; have := HA2.out; have := HC2.out; omega
        · exfalso; have := HXA.out; have := HA2.out; have := HC2.out; omega
        · exfalso; have := HXA.out; have := HA2.out; have := HC2.out; omega
        · have h5 : ¬ mid < en := fun h => h1 (q1.2 h)
          have h6 := q2.1 h2
          have hst : symL1 P A C S x y = l := (symStay P A C S x y (by have := HXA.out; omega) (by have := HXA.out; omega)).trans HLL.out.symm
          have ho1 : wr.ownsRow B 2 1 (.slice (some ⟨g, 0, none⟩) n c) n (nats (symL1 P A C S x y)) := by rw [hst]; exact hown
          have htwo := symTwo (P := P) (S := S) HCUT.out (by have := HXA.out; omega)
          clear q1 q2 hst
          go_wp2_with ((go_at_call 87; refine (R1.out _ ho1 hbl h3 h6).mono ?_; rintro e w2 ⟨rfl, ho2, hb2, hg2⟩))
          go_end0
          exact ⟨rfl, by rw [← htwo]; exact ho2, hb2, grownBy_trans hg hg2⟩
        · exfalso; have := HXA.out; have := HA2.out; have := HC2.out; omega
        · exfalso; have := HXA.out; have := HA2.out; have := HC2.out; omega
        · exfalso; have := HXA.out; have := HA2.out; have := HC2.out; omega
        · have h5 : ¬ mid < en := fun h => h1 (q1.2 h)
          have h6 : ¬ i < mid := fun h => h2 (q2.2 h)
          have hst : symL1 P A C S x y = l := (symStay P A C S x y (by have := HXA.out; omega) (by have := HXA.out; omega)).trans HLL.out.symm
          have ho1 : wr.ownsRow B 2 1 (.slice (some ⟨g, 0, none⟩) n c) n (nats (symL1 P A C S x y)) := by rw [hst]; exact hown
          have hone := symOne lt P A C S x y (by have := HXA.out; omega)
          have htwo := symTwo (P := P) (S := S) HCUT.out (by have := HXA.out; omega)
          clear q1 q2 hst
          go_wp2
          go_end0
          exact ⟨rfl, by rw [← htwo, ← hone]; exact ho1, hbl, hg⟩
        · exfalso; have := HXA.out; have := HA2.out; have := HC2.out; omega
        · exfalso; have := HXA.out; have := HA2.out; have := HC2.out; omega
        · exfalso; have := HXA.out; have := HA2.out; have := HC2.out; omega
  · have n3 : decide ((m : Int) > (mid : Int)) = false := decide_eq_false (by omega)
    have n4 : decide ((mid : Int) < (m : Int)) = false := decide_eq_false (by omega)
    obtain ⟨lo, hlo⟩ : ∃ lo, lo = a := ⟨_, rfl⟩
    obtain ⟨hi, hhi⟩ : ∃ hi, hi = m := ⟨_, rfl⟩
    have HLO : Hid ((mid < m ∧ lo = mid + m - b ∧ b ≤ mid + m ∧ hi = mid) ∨ (m ≤ mid ∧ lo = a ∧ hi = m)) := Lib.hid (Or.inr ⟨by omega, hlo, hhi⟩)
    have hlo1 : mid + m ≤ lo + b := by omega
    have hlo2 : a ≤ lo := by omega
    have hlh : lo ≤ hi := by omega
    have hhi1 : hi ≤ m := by omega
    have hhi2 : hi ≤ mid := by omega
    have hp1 : mid + m - 1 + 1 = mid + m := by omega
    have hp2 : m ≤ mid + m - 1 := by omega
    have HHI := Lib.hid hhi
    have HLE := Lib.hid hlo
    clear hmid hlo hhi
    obtain ⟨p, hpe⟩ : ∃ p, p = mid + m - 1 := ⟨_, rfl⟩
    obtain ⟨nn, hne⟩ : ∃ nn, nn = mid + m := ⟨_, rfl⟩
    rw [← hpe] at e5 hp1 hp2 HQQ HQL
    rw [← hne] at e4 e5 hp1 hlo1 hm3
    have HPE := Lib.hid hpe
    have HNE := Lib.hid hne
    clear hpe hne
    go_enter Tryd.func87, Tryd.ntmps87
    go_wp2
    go_loopw [20, 21] (fun q r wr => ∃ i j : Nat, q = .int .i64 (i : Int) ∧ r = .int .i64 (j : Int) ∧ Bs qq lo hi i j ∧ wr.ownsRow B 2 1 (.slice (some ⟨g, 0, none⟩) n c) n (nats l) ∧ w0.grownBy wr (some g) ∧ w.grownBy wr (some g)) (fun q r _ => (intOf r - intOf q).toNat)
    case atStart => exact ⟨lo, hi, by rw [HLE.out], by rw [HHI.out], Bs.start hlh, hown, hbl, World.grownBy.refl _ _⟩
    case round =>
      clear hown hbl e1 e2 e3 e4 e5 n1 n2 n3 n4
      obtain ⟨i, j, rfl, rfl, hbs, hown, hbl, hg⟩ := hrel
      have HBS := Lib.hid hbs
      obtain ⟨k1, k2, k3, -, -⟩ := hbs
      by_cases hij : i < j
      · obtain ⟨h, hh⟩ : ∃ h, h = (i + j) / 2 := ⟨_, rfl⟩
        have hh1 : i ≤ h := by omega
        have hh2 : h < j := by omega
        have s2 : ((i : Int) + (j : Int)) / 2 = (h : Int) := by omega
        have hijn : i + j ≤ 8192 := by omega
        obtain ⟨r, hr⟩ : ∃ r, r = p - h := ⟨_, rfl⟩
        have hrn : r < n := by omega
        have s3 : IntKind.i64.wrap ((p : Int) - (h : Int)) = (r : Int) := by rw [hr, Int.ofNat_sub (by omega)]; exact IntWalk.i64_in _ (by omega)
        have s4 : (p : Int) - (h : Int) = (r : Int) := by omega
        have hqh := HQQ.out h
        rw [← hr] at hqh
        have HQH := Lib.hid hqh
        clear hh hr hqh
        have c1 := hown.cellAt r (by omega)
        have c2 := hown.cellAt h (by omega)
        rw [nats_get l _ (by rw [HL.out]; omega)] at c1 c2
        have hx := getNat HMN.out r (by rw [HL.out]; omega)
        have hy := getNat HMN.out h (by rw [HL.out]; omega)
        have hbd : ∀ q, w0.grownBy (wr.drewN q) (some g) := fun q => grown_drewN hbl q
        have HCC := HCL.out
        have hcc : ∀ q, Calls Tryd.prog 54 #[.int .i64 ((l[r]?.getD 0 : Nat) : Int), .int .i64 ((l[h]?.getD 0 : Nat) : Int), cp] (wr.drewN q) fun e w' => e = .returned (.int .i64 (cf (l[r]?.getD 0) (l[h]?.getD 0))) ∧ ∃ mq, w' = (wr.drewN q).drewN mq := fun q => HCC _ _ _ (hbd q) hx hy
        clear HCC hbd
        have hk2 := HCF.out _ _ hx hy
        have HUP : Hid (lt (l[r]?.getD 0) (l[h]?.getD 0) = false → Bs qq lo hi (h + 1) j) := Lib.hid fun hq => HBS.out.up hh1 hh2 (HQH.out.trans (by rw [hq]; rfl))
        have HDN : Hid (lt (l[r]?.getD 0) (l[h]?.getD 0) = true → Bs qq lo hi i h) := Lib.hid fun hq => HBS.out.down hh1 hh2 (HQH.out.trans (by rw [hq]; rfl))
        have hhn : (h : Int) < (n : Int) := by omega
        have hrn' : (r : Int) < (n : Int) := by omega
        generalize l[r]?.getD 0 = u at *
        generalize l[h]?.getD 0 = v at *
        generalize cf u v = z at *
        clear HBS HQH
        cases hlt2 : lt u v
        · rw [hlt2] at hk2 HUP
          have HE := Lib.hid (HUP.out rfl)
          clear hlt2 HUP HDN
          go_wp2
          go_quiet ((go_at_call 54; exact Calls.quiet_of (hcc _)))
          go_wp2
          go_roundw
          case rel => exact ⟨h + 1, j, by go_num, rfl, HE.out, own_drewN hown _, grown_drewN hbl _, grown_drewN hg _⟩
          case measure => simp only [intOf]; omega
        · rw [hlt2] at hk2 HDN
          have HE := Lib.hid (HDN.out rfl)
          clear hlt2 HUP HDN
          go_wp2
          go_quiet ((go_at_call 54; exact Calls.quiet_of (hcc _)))
          go_wp2
          go_roundw
          case rel => exact ⟨i, h, rfl, rfl, HE.out, own_drewN hown _, grown_drewN hbl _, grown_drewN hg _⟩
          case measure => simp only [intOf]; omega
      · obtain rfl : i = j := by omega
        obtain ⟨x, y, hs, he, hx, hy, hxy, hcut⟩ := symCut hsw HLL.out HA.out HM.out HB.out HAS.out HCS.out HMID.out HLO.out hlo2 (by have := HBS.out; rw [HQL.out, HPE.out] at this; exact this)
        rw [← HNE.out] at he
        obtain ⟨en, hen⟩ : ∃ en, en = nn - i := ⟨_, rfl⟩
        have hnn := HNE.out
        have hMM := HM.out
        have hBB := HB.out
        have e8 : IntKind.i64.wrap ((nn : Int) - (i : Int)) = (en : Int) := by rw [hen, Int.ofNat_sub (by omega)]; exact IntWalk.i64_in _ (by omega)
        have HCUT := Lib.hid hcut
        have HRR : Hid (Rot l m (m - i) (en - m) (P ++ (A.take x ++ (C.take y ++ (A.drop x ++ (C.drop y ++ S)))))) := Lib.hid (by
          have := symRot P A C S m x y (by rw [HA.out]; exact HM.out) hx hy
          rw [← HLL.out, show A.length - x = m - i by omega, show y = en - m by omega] at this
          rw [show y = en - m by omega]
          exact this)
        have HR : Hid (i < m → m < en → Calls Tryd.prog 95 #[.slice (some ⟨g, 0, none⟩) n c, .int .i64 (i : Int), .int .i64 (m : Int), .int .i64 (en : Int), .func (.func 54) #[] #[cp]] wr fun e w' => e = .returned (.tuple #[]) ∧ w'.ownsRow B 2 1 (.slice (some ⟨g, 0, none⟩) n c) n (nats (symL1 P A C S x y)) ∧ wr.grownBy w' (some g)) := Lib.hid fun h1 h2 => rotI_any (some ⟨g, 0, none⟩) c B n i m en l _ wr _ HL.out h1 h2 (by omega) HRR.out hn hown
        have R1 : Hid (∀ W, W.ownsRow B 2 1 (.slice (some ⟨g, 0, none⟩) n c) n (nats (symL1 P A C S x y)) → w0.grownBy W (some g) → a < i → i < mid → Calls Tryd.prog 87 #[.slice (some ⟨g, 0, none⟩) n c, .int .i64 (a : Int), .int .i64 (i : Int), .int .i64 (mid : Int), .func (.func 54) #[] #[cp]] W fun e w' => e = .returned (.tuple #[]) ∧ w'.ownsRow B 2 1 (.slice (some ⟨g, 0, none⟩) n c) n (nats (symL2 lt P A C S x y)) ∧ w0.grownBy w' (some g) ∧ W.grownBy w' (some g)) :=
          Lib.hid fun W hW hWb h1 h2 => HIH.out P (A.take x) (C.take y) (A.drop x ++ (C.drop y ++ S)) _ W a i mid (by have := HK.out; simp; omega) (by simp; omega) (by simp; omega) rfl (by rw [symL1_len, ← HLL.out, HL.out]) (symL1_mem (by rw [← HLL.out]; exact HMN.out)) HA.out (by simp; omega) (by simp; omega) (HAS.out.sublist (List.take_sublist _ _)) (HCS.out.sublist (List.take_sublist _ _)) hW hWb
        have R2 : Hid (∀ W, W.ownsRow B 2 1 (.slice (some ⟨g, 0, none⟩) n c) n (nats (symL2 lt P A C S x y)) → w0.grownBy W (some g) → mid < en → en < b → Calls Tryd.prog 87 #[.slice (some ⟨g, 0, none⟩) n c, .int .i64 (mid : Int), .int .i64 (en : Int), .int .i64 (b : Int), .func (.func 54) #[] #[cp]] W fun e w' => e = .returned (.tuple #[]) ∧ w'.ownsRow B 2 1 (.slice (some ⟨g, 0, none⟩) n c) n (nats (P ++ (mrg lt A C ++ S))) ∧ w0.grownBy w' (some g) ∧ W.grownBy w' (some g)) :=
          Lib.hid fun W hW hWb h1 h2 => by
            have := HIH.out (P ++ mrg lt (A.take x) (C.take y)) (A.drop x) (C.drop y) S _ W mid en b (by have := HK.out; simp; omega) (by simp; omega) (by simp; omega) rfl (by rw [List.append_assoc]; exact (symL2_len lt P A C S x y).trans (by rw [← HLL.out, HL.out])) (by rw [List.append_assoc]; exact symL2_mem (by rw [← HLL.out]; exact HMN.out)) (by have := HA.out; rw [List.length_append, mrg_len]; simp; omega) (by simp; omega) (by simp; omega) (HAS.out.sublist (List.drop_sublist _ _)) (HCS.out.sublist (List.drop_sublist _ _)) (by rw [List.append_assoc]; exact hW) hWb
            rw [hcut]
            simp only [List.append_assoc] at this ⊢
            exact this
        have hsz : g < wr.heap.size := Nat.lt_of_lt_of_le hgl hg.size
        have q1 : i < m ↔ mid < en := by omega
        have q2 : m < en ↔ i < mid := by omega
        have HXA : Hid (i = a + x ∧ m = a + A.length ∧ en = m + y ∧ b = m + C.length ∧ mid = a + x + y ∧ x ≤ A.length ∧ y ≤ C.length) := Lib.hid (by omega)
        clear hs he hx hy hxy hnn hMM hBB hen hcut HBS k1 k2 k3
        by_cases h1 : i < m <;> by_cases h2 : m < en <;> by_cases h3 : a < i <;> by_cases h4 : en < b
        · have h5 := q1.1 h1
          have h6 := q2.1 h2
          clear q1 q2
          go_wp2_with (first | (go_at_call 87; refine (R2.out _ ho2 hb2 h5 h4).mono ?_; rintro e w3 ⟨rfl, ho3, hb3, hg3⟩) | (go_at_call 87; refine (R1.out _ ho1 (grownBy_trans hbl hg1) h3 h6).mono ?_; rintro e w2 ⟨rfl, ho2, hb2, hg2⟩) | (go_at_call 95; refine (HR.out h1 h2).mono ?_; rintro e w1 ⟨rfl, ho1, hg1⟩))
          go_end0
          exact ⟨rfl, ho3, hb3, grownBy_trans hg (grownBy_trans hg1 (grownBy_trans hg2 hg3))⟩
        · have h5 := q1.1 h1
          have h6 := q2.1 h2
          have htwo := symTwo (P := P) (S := S) HCUT.out (by have := HXA.out; omega)
          clear q1 q2
          go_wp2_with (first | (go_at_call 87; refine (R1.out _ ho1 (grownBy_trans hbl hg1) h3 h6).mono ?_; rintro e w2 ⟨rfl, ho2, hb2, hg2⟩) | (go_at_call 95; refine (HR.out h1 h2).mono ?_; rintro e w1 ⟨rfl, ho1, hg1⟩))
          go_end0
          exact ⟨rfl, by rw [← htwo]; exact ho2, hb2, grownBy_trans hg (grownBy_trans hg1 hg2)⟩
        · have h5 := q1.1 h1
          have h6 := q2.1 h2
          have hone := symOne lt P A C S x y (by have := HXA.out; omega)
          clear q1 q2
          go_wp2_with (first | (go_at_call 87; refine (R2.out _ (by rw [← hone]; exact ho1) (grownBy_trans hbl hg1) h5 h4).mono ?_; rintro e w3 ⟨rfl, ho3, hb3, hg3⟩) | (go_at_call 95; refine (HR.out h1 h2).mono ?_; rintro e w1 ⟨rfl, ho1, hg1⟩))
          go_end0
          exact ⟨rfl, ho3, hb3, grownBy_trans hg (grownBy_trans hg1 hg3)⟩
        · have h5 := q1.1 h1
          have h6 := q2.1 h2
          have hone := symOne lt P A C S x y (by have := HXA.out; omega)
          have htwo := symTwo (P := P) (S := S) HCUT.out (by have := HXA.out; omega)
          clear q1 q2
          go_wp2_with ((go_at_call 95; refine (HR.out h1 h2).mono ?_; rintro e w1 ⟨rfl, ho1, hg1⟩))
          go_end0
          exact ⟨rfl, by rw [← htwo, ← hone]; exact ho1, (grownBy_trans hbl hg1), grownBy_trans hg hg1⟩
        · have h5 := q1.1 h1
          have h6 : ¬ i < mid := fun h => h2 (q2.2 h)
          have hst : symL1 P A C S x y = l := (symStay P A C S x y (by have := HXA.out; omega) (by have := HXA.out; omega)).trans HLL.out.symm
          have ho1 : wr.ownsRow B 2 1 (.slice (some ⟨g, 0, none⟩) n c) n (nats (symL1 P A C S x y)) := by rw [hst]; exact hown
          have hone := symOne lt P A C S x y (by have := HXA.out; omega)
          clear q1 q2 hst
          go_wp2_with ((go_at_call 87; refine (R2.out _ (by rw [← hone]; exact ho1) hbl h5 h4).mono ?_; rintro e w3 ⟨rfl, ho3, hb3, hg3⟩))
          go_end0
          exact ⟨rfl, ho3, hb3, grownBy_trans hg hg3⟩
        · exfalso; have := HXA.out; have := HA2.out; have := HC2.out; omega
        · exfalso; have := HXA.out; have := HA2.out; have := HC2.out; omega
        · exfalso; have := HXA.out; have := HA2.out; have := HC2.out; omega
        · have h5 : ¬ mid < en := fun h => h1 (q1.2 h)
          have h6 := q2.1 h2
          have hst : symL1 P A C S x y = l := (symStay P A C S x y (by have := HXA.out; omega) (by have := HXA.out; omega)).trans HLL.out.symm
          have ho1 : wr.ownsRow B 2 1 (.slice (some ⟨g, 0, none⟩) n c) n (nats (symL1 P A C S x y)) := by rw [hst]; exact hown
          have htwo := symTwo (P := P) (S := S) HCUT.out (by have := HXA.out; omega)
          clear q1 q2 hst
          go_wp2_with ((go_at_call 87; refine (R1.out _ ho1 hbl h3 h6).mono ?_; rintro e w2 ⟨rfl, ho2, hb2, hg2⟩))
          go_end0
          exact ⟨rfl, by rw [← htwo]; exact ho2, hb2, grownBy_trans hg hg2⟩
        · exfalso; have := HXA.out; have := HA2.out; have := HC2.out; omega
        · exfalso; have := HXA.out; have := HA2.out; have := HC2.out; omega
        · exfalso; have := HXA.out; have := HA2.out; have := HC2.out; omega
        · have h5 : ¬ mid < en := fun h => h1 (q1.2 h)
          have h6 : ¬ i < mid := fun h => h2 (q2.2 h)
          have hst : symL1 P A C S x y = l := (symStay P A C S x y (by have := HXA.out; omega) (by have := HXA.out; omega)).trans HLL.out.symm
          have ho1 : wr.ownsRow B 2 1 (.slice (some ⟨g, 0, none⟩) n c) n (nats (symL1 P A C S x y)) := by rw [hst]; exact hown
          have hone := symOne lt P A C S x y (by have := HXA.out; omega)
          have htwo := symTwo (P := P) (S := S) HCUT.out (by have := HXA.out; omega)
          clear q1 q2 hst
          go_wp2
          go_end0
          exact ⟨rfl, by rw [← htwo, ← hone]; exact ho1, hbl, hg⟩
        · exfalso; have := HXA.out; have := HA2.out; have := HC2.out; omega
        · exfalso; have := HXA.out; have := HA2.out; have := HC2.out; omega
        · exfalso; have := HXA.out; have := HA2.out; have := HC2.out; omega

end Go.Proofs.YtjobgobeiiakgaaDoor
