/- The library's stable sort of float32 words: two sorted parts merged. -/
import Derived.Test.YtmocfnpbofeiiaaMFym2
import Derived.Test.YtmocfnpbofeiiaaMSym3
import Derived.Test.YtmocfnpbofeiiaaMMevP
namespace Go.Proofs.Ytmocfnpbofeiiaa
set_option linter.unusedSimpArgs false
set_option linter.unusedVariables false
open Go.RowKit
theorem size_atF {w0 w : World} {B g : Nat} {T : TypeId} {n c : Nat} {xs : List Value} (h : w.ownsRow B T 1 (.slice (some ⟨g, 0, none⟩) n c) n xs) (hn : 1 ≤ n) : g < w.heap.size := by
  obtain ⟨g', e, -, h2⟩ := own_some h hn
  cases e; exact h2
/-- The merge of parts of at most k elements together. -/
def SymKFall (k n N B g c : Nat) (f : Nat → Nat) (w0 : World) (lt : Nat → Nat → Bool) : Prop :=
  ∀ (P A C S l : List Nat) (w : World) (a m b : Nat), A.length + C.length ≤ k → 1 ≤ A.length → 1 ≤ C.length → l = P ++ (A ++ (C ++ S)) → l.length = n → (∀ x ∈ l, x < N) → P.length = a → a + A.length = m → m + C.length = b → A.Pairwise (NS lt) → C.Pairwise (NS lt) →
    w.ownsRow B 32 1 (.slice (some ⟨g, 0, none⟩) n c) n (wds f l) → w0.grownBy w (some g) →
    Calls Try.prog 150 #[.slice (some ⟨g, 0, none⟩) n c, .int .i64 (a : Int), .int .i64 (m : Int), .int .i64 (b : Int), .func (.func 131) #[] #[]] w fun e w' => e = .returned (.tuple #[]) ∧ w'.ownsRow B 32 1 (.slice (some ⟨g, 0, none⟩) n c) n (wds f (P ++ (mrg lt A C ++ S))) ∧ w0.grownBy w' (some g) ∧ w.grownBy w' (some g)

set_option maxRecDepth 4000 in
set_option maxHeartbeats 4000000 in
theorem symSFall_any {g : Nat} (f : Nat → Nat) (B N n : Nat) (w0 : World) (cf : Nat → Nat → Int) (lt : Nat → Nat → Bool) (hsw : SW lt) (hcf : ∀ x y, x < N → y < N → decide (cf x y < 0) = lt x y) (hcl : ClF Try.prog 131 f (some g) N w0 cf) (c k : Nat) (hn : n ≤ 4096) (IH : SymKFall k n N B g c f w0 lt) :
    SymKFall (k + 1) n N B g c f w0 lt := by
  intro P A C S l w a m b hk hA1 hC1 hl hln hN ha hm hb hAs hCs hown hbl
  by_cases hA2 : A.length = 1
  · obtain ⟨x, rfl⟩ := List.length_eq_one_iff.1 hA2
    have := symAFall_any f B N n a b w0 w cf lt hsw hcf hcl c P C S x l (by simpa using hl) hln hN ha (by simp at hm; omega) hCs hn hown hbl
    rw [show a + 1 = m by simpa using hm, List.append_assoc] at this
    exact this
  by_cases hC2 : C.length = 1
  · obtain ⟨x, rfl⟩ := List.length_eq_one_iff.1 hC2
    have := symBFall_any f B N n a m w0 w cf lt hsw hcf hcl c P A S x l (by simpa using hl) hln hN ha hm (by omega) hAs hn hown hbl
    rw [show m + 1 = b by simpa using hb, List.append_assoc] at this
    exact this
  have hgl := size_atF (w0 := w0) hown (by have := congrArg List.length hl; simp at this; omega)
  have hBg : B ≤ g := by
    obtain ⟨g', e, h2, -⟩ := own_some hown (by have := congrArg List.length hl; simp at this; omega)
    cases e; exact h2
  have hbn : b ≤ n := by have := congrArg List.length hl; simp at this; omega
  have HCL := Lib.hid hcl
  have HCF := Lib.hid hcf
  have HIH := Lib.hid IH
  have HL := Lib.hid hln
  have HLL := Lib.hid hl
  have HMN := Lib.hid hN
  have HA := Lib.hid ha
  have HM := Lib.hid hm
  have HB := Lib.hid hb
  have HAS := Lib.hid hAs
  have HCS := Lib.hid hCs
  have HK := Lib.hid hk
  have HA2 : Hid (2 ≤ A.length) := Lib.hid (by omega)
  have HC2 : Hid (2 ≤ C.length) := Lib.hid (by omega)
  have ham : a + 2 ≤ m := by omega
  have hmb : m + 2 ≤ b := by omega
  clear hcl hcf IH hl hln hN ha hm hb hAs hCs hk hA1 hC1 hA2 hC2
  obtain ⟨d1, hd1⟩ : ∃ d, d = m - a := ⟨_, rfl⟩
  obtain ⟨d2, hd2⟩ : ∃ d, d = b - m := ⟨_, rfl⟩
  have e1 : IntKind.i64.wrap ((m : Int) - (a : Int)) = (d1 : Int) := by rw [hd1, Int.ofNat_sub (by omega)]; exact IntWalk.i64_in _ (by omega)
  have e2 : IntKind.i64.wrap ((b : Int) - (m : Int)) = (d2 : Int) := by rw [hd2, Int.ofNat_sub (by omega)]; exact IntWalk.i64_in _ (by omega)
  have n1 : ((d1 : Int) == 1) = false := beq_false_of_ne (by omega)
  have n2 : ((d2 : Int) == 1) = false := beq_false_of_ne (by omega)
  clear hd1 hd2
  obtain ⟨mid, hmid⟩ : ∃ mid, mid = (a + b) / 2 := ⟨_, rfl⟩
  have HMID := Lib.hid hmid
  have e3 : ((a : Int) + (b : Int)) / 2 = (mid : Int) := by omega
  have hm1 : a < mid := by omega
  have hm2 : mid < b := by omega
  have hm3 : mid + m ≤ a + b + (m - a) := by omega
  obtain ⟨qq, hqq⟩ : ∃ qq : Nat → Bool, qq = fun c : Nat => !(lt (l[mid + m - 1 - c]?.getD 0) (l[c]?.getD 0)) := ⟨_, rfl⟩
  have HQQ : Hid (∀ c, qq c = !(lt (l[mid + m - 1 - c]?.getD 0) (l[c]?.getD 0))) := Lib.hid fun c => by rw [hqq]
  have HQL := Lib.hid hqq
  clear hqq
  have e4 : IntKind.i64.wrap ((mid : Int) + (m : Int)) = ((mid + m : Nat) : Int) := by rw [Int.natCast_add]; exact IntWalk.i64_in _ (by omega)
  have e5 : IntKind.i64.wrap (((mid + m : Nat) : Int) - 1) = ((mid + m - 1 : Nat) : Int) := by rw [Int.ofNat_sub (by omega)]; exact IntWalk.i64_in _ (by omega)
  by_cases hlow : mid < m
  · have n3 : decide ((m : Int) > (mid : Int)) = true := decide_eq_true (by omega)
    have n4 : decide ((mid : Int) < (m : Int)) = true := decide_eq_true (by omega)
    have e6 : IntKind.i64.wrap (((mid + m : Nat) : Int) - (b : Int)) = ((mid + m - b : Nat) : Int) := by rw [Int.ofNat_sub (by omega)]; exact IntWalk.i64_in _ (by omega)
    obtain ⟨lo, hlo⟩ : ∃ lo, lo = mid + m - b := ⟨_, rfl⟩
    obtain ⟨hi, hhi⟩ : ∃ hi, hi = mid := ⟨_, rfl⟩
    have HLO : Hid ((mid < m ∧ lo = mid + m - b ∧ b ≤ mid + m ∧ hi = mid) ∨ (m ≤ mid ∧ lo = a ∧ hi = m)) := Lib.hid (Or.inl ⟨hlow, hlo, by omega, hhi⟩)
    have hlo1 : mid + m ≤ lo + b := by omega
    have hlo2 : a ≤ lo := by omega
    have hlh : lo ≤ hi := by omega
    have hhi1 : hi ≤ m := by omega
    have hhi2 : hi ≤ mid := by omega
    have hp1 : mid + m - 1 + 1 = mid + m := by omega
    have hp2 : m ≤ mid + m - 1 := by omega
    have HHI := Lib.hid hhi
    rw [← hlo] at e6
    clear hmid hlo hhi
    obtain ⟨p, hpe⟩ : ∃ p, p = mid + m - 1 := ⟨_, rfl⟩
    obtain ⟨nn, hne⟩ : ∃ nn, nn = mid + m := ⟨_, rfl⟩
    rw [← hpe] at e5 hp1 hp2 HQQ HQL
    rw [← hne] at e4 e5 e6 hp1 hlo1 hm3
    have HPE := Lib.hid hpe
    have HNE := Lib.hid hne
    clear hpe hne
    go_enter Try.func150, Try.ntmps150
    go_wp2
    go_loopw [20, 21] (fun q r wr => ∃ i j : Nat, q = .int .i64 (i : Int) ∧ r = .int .i64 (j : Int) ∧ Bs qq lo hi i j ∧ wr.ownsRow B 32 1 (.slice (some ⟨g, 0, none⟩) n c) n (wds f l) ∧ w0.grownBy wr (some g) ∧ w.grownBy wr (some g)) (fun q r _ => (intOf r - intOf q).toNat)
    case atStart => exact ⟨lo, hi, rfl, by rw [HHI.out], Bs.start hlh, hown, hbl, World.grownBy.refl _ _⟩
    case round =>
      clear hown hbl e1 e2 e3 e4 e5 e6 n1 n2 n3 n4
      obtain ⟨i, j, rfl, rfl, hbs, hown, hbl, hg⟩ := hrel
      have HBS := Lib.hid hbs
      obtain ⟨k1, k2, k3, -, -⟩ := hbs
      by_cases hij : i < j
      · obtain ⟨h, hh⟩ : ∃ h, h = (i + j) / 2 := ⟨_, rfl⟩
        have hh1 : i ≤ h := by omega
        have hh2 : h < j := by omega
        have s2 : ((i : Int) + (j : Int)) / 2 = (h : Int) := by omega
        have hijn : i + j ≤ 8192 := by omega
        obtain ⟨r, hr⟩ : ∃ r, r = p - h := ⟨_, rfl⟩
        have hrn : r < n := by omega
        have s3 : IntKind.i64.wrap ((p : Int) - (h : Int)) = (r : Int) := by rw [hr, Int.ofNat_sub (by omega)]; exact IntWalk.i64_in _ (by omega)
        have s4 : (p : Int) - (h : Int) = (r : Int) := by omega
        have hqh := HQQ.out h
        rw [← hr] at hqh
        have HQH := Lib.hid hqh
        clear hh hr hqh
        have c1 := hown.cellAt r (by omega)
        have c2 := hown.cellAt h (by omega)
        rw [wds_get f l _ (by rw [HL.out]; omega)] at c1 c2
        have hx := getNat HMN.out r (by rw [HL.out]; omega)
        have hy := getNat HMN.out h (by rw [HL.out]; omega)
        have hbd : ∀ q, w0.grownBy (wr.drewN q) (some g) := fun q => grown_drewN hbl q
        have HCC := HCL.out
        have hcc : ∀ q, Calls Try.prog 131 #[.float .f32 (f (l[r]?.getD 0)), .float .f32 (f (l[h]?.getD 0))] (wr.drewN q) fun e w' => e = .returned (.int .i64 (cf (l[r]?.getD 0) (l[h]?.getD 0))) ∧ ∃ mq, w' = (wr.drewN q).drewN mq := fun q => HCC _ _ _ (hbd q) hx hy
        clear HCC hbd
        have hk2 := HCF.out _ _ hx hy
        have HUP : Hid (lt (l[r]?.getD 0) (l[h]?.getD 0) = false → Bs qq lo hi (h + 1) j) := Lib.hid fun hq => HBS.out.up hh1 hh2 (HQH.out.trans (by rw [hq]; rfl))
        have HDN : Hid (lt (l[r]?.getD 0) (l[h]?.getD 0) = true → Bs qq lo hi i h) := Lib.hid fun hq => HBS.out.down hh1 hh2 (HQH.out.trans (by rw [hq]; rfl))
        have hhn : (h : Int) < (n : Int) := by omega
        have hrn' : (r : Int) < (n : Int) := by omega
        generalize l[r]?.getD 0 = u at *
        generalize l[h]?.getD 0 = v at *
        generalize cf u v = z at *
        clear HBS HQH
        cases hlt2 : lt u v
        · rw [hlt2] at hk2 HUP
          have HE := Lib.hid (HUP.out rfl)
          clear hlt2 HUP HDN
          go_wp2
          go_quiet ((go_at_call 131; exact Calls.quiet_of (hcc _)))
          go_wp2
          go_roundw
          case rel => exact ⟨h + 1, j, by go_num, rfl, HE.out, own_drewN hown _, grown_drewN hbl _, grown_drewN hg _⟩
          case measure => simp only [intOf]; omega
        · rw [hlt2] at hk2 HDN
          have HE := Lib.hid (HDN.out rfl)
          clear hlt2 HUP HDN
          go_wp2
          go_quiet ((go_at_call 131; exact Calls.quiet_of (hcc _)))
          go_wp2
          go_roundw
          case rel => exact ⟨i, h, rfl, rfl, HE.out, own_drewN hown _, grown_drewN hbl _, grown_drewN hg _⟩
          case measure => simp only [intOf]; omega
      · obtain rfl : i = j := by omega
        obtain ⟨x, y, hs, he, hx, hy, hxy, hcut⟩ := symCut hsw HLL.out HA.out HM.out HB.out HAS.out HCS.out HMID.out HLO.out hlo2 (by have := HBS.out; rw [HQL.out, HPE.out] at this; exact this)
        rw [← HNE.out] at he
        obtain ⟨en, hen⟩ : ∃ en, en = nn - i := ⟨_, rfl⟩
        have hnn := HNE.out
        have hMM := HM.out
        have hBB := HB.out
        have e8 : IntKind.i64.wrap ((nn : Int) - (i : Int)) = (en : Int) := by rw [hen, Int.ofNat_sub (by omega)]; exact IntWalk.i64_in _ (by omega)
        have HCUT := Lib.hid hcut
        have HRR : Hid (Rot l m (m - i) (en - m) (P ++ (A.take x ++ (C.take y ++ (A.drop x ++ (C.drop y ++ S)))))) := Lib.hid (by
          have := symRot P A C S m x y (by rw [HA.out]; exact HM.out) hx hy
          rw [← HLL.out, show A.length - x = m - i by omega, show y = en - m by omega] at this
          rw [show y = en - m by omega]
          exact this)
        have HR : Hid (i < m → m < en → Calls Try.prog 152 #[.slice (some ⟨g, 0, none⟩) n c, .int .i64 (i : Int), .int .i64 (m : Int), .int .i64 (en : Int), .func (.func 131) #[] #[]] wr fun e w' => e = .returned (.tuple #[]) ∧ w'.ownsRow B 32 1 (.slice (some ⟨g, 0, none⟩) n c) n (wds f (symL1 P A C S x y)) ∧ wr.grownBy w' (some g)) := Lib.hid fun h1 h2 => rotW_any f (some ⟨g, 0, none⟩) c B n i m en l _ wr _ HL.out h1 h2 (by omega) HRR.out hn hown
        have R1 : Hid (∀ W, W.ownsRow B 32 1 (.slice (some ⟨g, 0, none⟩) n c) n (wds f (symL1 P A C S x y)) → w0.grownBy W (some g) → a < i → i < mid → Calls Try.prog 150 #[.slice (some ⟨g, 0, none⟩) n c, .int .i64 (a : Int), .int .i64 (i : Int), .int .i64 (mid : Int), .func (.func 131) #[] #[]] W fun e w' => e = .returned (.tuple #[]) ∧ w'.ownsRow B 32 1 (.slice (some ⟨g, 0, none⟩) n c) n (wds f (symL2 lt P A C S x y)) ∧ w0.grownBy w' (some g) ∧ W.grownBy w' (some g)) :=
          Lib.hid fun W hW hWb h1 h2 => HIH.out P (A.take x) (C.take y) (A.drop x ++ (C.drop y ++ S)) _ W a i mid (by have := HK.out; simp; omega) (by simp; omega) (by simp; omega) rfl (by rw [symL1_len, ← HLL.out, HL.out]) (symL1_mem (by rw [← HLL.out]; exact HMN.out)) HA.out (by simp; omega) (by simp; omega) (HAS.out.sublist (List.take_sublist _ _)) (HCS.out.sublist (List.take_sublist _ _)) hW hWb
        have R2 : Hid (∀ W, W.ownsRow B 32 1 (.slice (some ⟨g, 0, none⟩) n c) n (wds f (symL2 lt P A C S x y)) → w0.grownBy W (some g) → mid < en → en < b → Calls Try.prog 150 #[.slice (some ⟨g, 0, none⟩) n c, .int .i64 (mid : Int), .int .i64 (en : Int), .int .i64 (b : Int), .func (.func 131) #[] #[]] W fun e w' => e = .returned (.tuple #[]) ∧ w'.ownsRow B 32 1 (.slice (some ⟨g, 0, none⟩) n c) n (wds f (P ++ (mrg lt A C ++ S))) ∧ w0.grownBy w' (some g) ∧ W.grownBy w' (some g)) :=
          Lib.hid fun W hW hWb h1 h2 => by
            have := HIH.out (P ++ mrg lt (A.take x) (C.take y)) (A.drop x) (C.drop y) S _ W mid en b (by have := HK.out; simp; omega) (by simp; omega) (by simp; omega) rfl (by rw [List.append_assoc]; exact (symL2_len lt P A C S x y).trans (by rw [← HLL.out, HL.out])) (by rw [List.append_assoc]; exact symL2_mem (by rw [← HLL.out]; exact HMN.out)) (by have := HA.out; rw [List.length_append, mrg_len]; simp; omega) (by simp; omega) (by simp; omega) (HAS.out.sublist (List.drop_sublist _ _)) (HCS.out.sublist (List.drop_sublist _ _)) (by rw [List.append_assoc]; exact hW) hWb
            rw [hcut]
            simp only [List.append_assoc] at this ⊢
            exact this
        have hsz : g < wr.heap.size := Nat.lt_of_lt_of_le hgl hg.size
        have q1 : i < m ↔ mid < en := by omega
        have q2 : m < en ↔ i < mid := by omega
        have HXA : Hid (i = a + x ∧ m = a + A.length ∧ en = m + y ∧ b = m + C.length ∧ mid = a + x + y ∧ x ≤ A.length ∧ y ≤ C.length) := Lib.hid (by omega)
        clear hs he hx hy hxy hnn hMM hBB hen hcut HBS k1 k2 k3
        by_cases h1 : i < m <;> by_cases h2 : m < en <;> by_cases h3 : a < i <;> by_cases h4 : en < b
        · have h5 := q1.1 h1
          have h6 := q2.1 h2
          clear q1 q2
          go_wp2_with (first | (go_at_call 150; refine (R2.out _ ho2 hb2 h5 h4).mono ?_; rintro e w3 ⟨rfl, ho3, hb3, hg3⟩) | (go_at_call 150; refine (R1.out _ ho1 (grownBy_trans hbl hg1) h3 h6).mono ?_; rintro e w2 ⟨rfl, ho2, hb2, hg2⟩) | (go_at_call 152; refine (HR.out h1 h2).mono ?_; rintro e w1 ⟨rfl, ho1, hg1⟩))
          go_end0
          exact ⟨rfl, ho3, hb3, grownBy_trans hg (grownBy_trans hg1 (grownBy_trans hg2 hg3))⟩
        · have h5 := q1.1 h1
          have h6 := q2.1 h2
          have htwo := symTwo (P := P) (S := S) HCUT.out (by have := HXA.out; omega)
          clear q1 q2
          go_wp2_with (first | (go_at_call 150; refine (R1.out _ ho1 (grownBy_trans hbl hg1) h3 h6).mono ?_; rintro e w2 ⟨rfl, ho2, hb2, hg2⟩) | (go_at_call 152; refine (HR.out h1 h2).mono ?_; rintro e w1 ⟨rfl, ho1, hg1⟩))
          go_end0
          exact ⟨rfl, by rw [← htwo]; exact ho2, hb2, grownBy_trans hg (grownBy_trans hg1 hg2)⟩
        · have h5 := q1.1 h1
          have h6 := q2.1 h2
          have hone := symOne lt P A C S x y (by have := HXA.out; omega)
          clear q1 q2
          go_wp2_with (first | (go_at_call 150; refine (R2.out _ (by rw [← hone]; exact ho1) (grownBy_trans hbl hg1) h5 h4).mono ?_; rintro e w3 ⟨rfl, ho3, hb3, hg3⟩) | (go_at_call 152; refine (HR.out h1 h2).mono ?_; rintro e w1 ⟨rfl, ho1, hg1⟩))
          go_end0
          exact ⟨rfl, ho3, hb3, grownBy_trans hg (grownBy_trans hg1 hg3)⟩
        · have h5 := q1.1 h1
          have h6 := q2.1 h2
          have hone := symOne lt P A C S x y (by have := HXA.out; omega)
          have htwo := symTwo (P := P) (S := S) HCUT.out (by have := HXA.out; omega)
          clear q1 q2
          go_wp2_with ((go_at_call 152; refine (HR.out h1 h2).mono ?_; rintro e w1 ⟨rfl, ho1, hg1⟩))
          go_end0
          exact ⟨rfl, by rw [← htwo, ← hone]; exact ho1, (grownBy_trans hbl hg1), grownBy_trans hg hg1⟩
        · have h5 := q1.1 h1
          have h6 : ¬ i < mid := fun h => h2 (q2.2 h)
          have hst : symL1 P A C S x y = l := (symStay P A C S x y (by have := HXA.out; omega) (by have := HXA.out; omega)).trans HLL.out.symm
          have ho1 : wr.ownsRow B 32 1 (.slice (some ⟨g, 0, none⟩) n c) n (wds f (symL1 P A C S x y)) := by rw [hst]; exact hown
          have hone := symOne lt P A C S x y (by have := HXA.out; omega)
          clear q1 q2 hst
          go_wp2_with ((go_at_call 150; refine (R2.out _ (by rw [← hone]; exact ho1) hbl h5 h4).mono ?_; rintro e w3 ⟨rfl, ho3, hb3, hg3⟩))
          go_end0
          exact ⟨rfl, ho3, hb3, grownBy_trans hg hg3⟩
        · exfalso; have := HXA.out; have := HA2.out; have := HC2.out; omega
        · exfalso; have := HXA.out; have := HA2.out; have := HC2.out; omega
        · exfalso; have := HXA.out; have := HA2.out; have := HC2.out; omega
        · have h5 : ¬ mid < en := fun h => h1 (q1.2 h)
          have h6 := q2.1 h2
          have hst : symL1 P A C S x y = l := (symStay P A C S x y (by have := HXA.out; omega) (by have := HXA.out; omega)).trans HLL.out.symm
          have ho1 : wr.ownsRow B 32 1 (.slice (some ⟨g, 0, none⟩) n c) n (wds f (symL1 P A C S x y)) := by rw [hst]; exact hown
          have htwo := symTwo (P := P) (S := S) HCUT.out (by have := HXA.out; omega)
          clear q1 q2 hst
          go_wp2_with ((go_at_call 150; refine (R1.out _ ho1 hbl h3 h6).mono ?_; rintro e w2 ⟨rfl, ho2, hb2, hg2⟩))
          go_end0
          exact ⟨rfl, by rw [← htwo]; exact ho2, hb2, grownBy_trans hg hg2⟩
        · exfalso; have := HXA.out; have := HA2.out; have := HC2.out; omega
        · exfalso; have := HXA.out; have := HA2.out; have := HC2.out; omega
        · exfalso; have := HXA.out; have := HA2.out; have := HC2.out; omega
        · have h5 : ¬ mid < en := fun h => h1 (q1.2 h)
          have h6 : ¬ i < mid := fun h => h2 (q2.2 h)
          have hst : symL1 P A C S x y = l := (symStay P A C S x y (by have := HXA.out; omega) (by have := HXA.out; omega)).trans HLL.out.symm
          have ho1 : wr.ownsRow B 32 1 (.slice (some ⟨g, 0, none⟩) n c) n (wds f (symL1 P A C S x y)) := by rw [hst]; exact hown
          have hone := symOne lt P A C S x y (by have := HXA.out; omega)
          have htwo := symTwo (P := P) (S := S) HCUT.out (by have := HXA.out; omega)
          clear q1 q2 hst
          go_wp2
          go_end0
          exact ⟨rfl, by rw [← htwo, ← hone]; exact ho1, hbl, hg⟩
        · exfalso; have := HXA.out; have := HA2.out; have := HC2.out; omega
        · exfalso; have := HXA.out; have := HA2.out; have := HC2.out; omega
        · exfalso; have := HXA.out; have := HA2.out; have := HC2.out; omega
  · have n3 : decide ((m : Int) > (mid : Int)) = false := decide_eq_false (by omega)
    have n4 : decide ((mid : Int) < (m : Int)) = false := decide_eq_false (by omega)
    obtain ⟨lo, hlo⟩ : ∃ lo, lo = a := ⟨_, rfl⟩
    obtain ⟨hi, hhi⟩ : ∃ hi, hi = m := ⟨_, rfl⟩
    have HLO : Hid ((mid < m ∧ lo = mid + m - b ∧ b ≤ mid + m ∧ hi = mid) ∨ (m ≤ mid ∧ lo = a ∧ hi = m)) := Lib.hid (Or.inr ⟨by omega, hlo, hhi⟩)
    have hlo1 : mid + m ≤ lo + b := by omega
    have hlo2 : a ≤ lo := by omega
    have hlh : lo ≤ hi := by omega
    have hhi1 : hi ≤ m := by omega
    have hhi2 : hi ≤ mid := by omega
    have hp1 : mid + m - 1 + 1 = mid + m := by omega
    have hp2 : m ≤ mid + m - 1 := by omega
    have HHI := Lib.hid hhi
    have HLE := Lib.hid hlo
    clear hmid hlo hhi
    obtain ⟨p, hpe⟩ : ∃ p, p = mid + m - 1 := ⟨_, rfl⟩
    obtain ⟨nn, hne⟩ : ∃ nn, nn = mid + m := ⟨_, rfl⟩
    rw [← hpe] at e5 hp1 hp2 HQQ HQL
    rw [← hne] at e4 e5 hp1 hlo1 hm3
    have HPE := Lib.hid hpe
    have HNE := Lib.hid hne
    clear hpe hne
    go_enter Try.func150, Try.ntmps150
    go_wp2
    go_loopw [20, 21] (fun q r wr => ∃ i j : Nat, q = .int .i64 (i : Int) ∧ r = .int .i64 (j : Int) ∧ Bs qq lo hi i j ∧ wr.ownsRow B 32 1 (.slice (some ⟨g, 0, none⟩) n c) n (wds f l) ∧ w0.grownBy wr (some g) ∧ w.grownBy wr (some g)) (fun q r _ => (intOf r - intOf q).toNat)
    case atStart => exact ⟨lo, hi, by rw [HLE.out], by rw [HHI.out], Bs.start hlh, hown, hbl, World.grownBy.refl _ _⟩
    case round =>
      clear hown hbl e1 e2 e3 e4 e5 n1 n2 n3 n4
      obtain ⟨i, j, rfl, rfl, hbs, hown, hbl, hg⟩ := hrel
      have HBS := Lib.hid hbs
      obtain ⟨k1, k2, k3, -, -⟩ := hbs
      by_cases hij : i < j
      · obtain ⟨h, hh⟩ : ∃ h, h = (i + j) / 2 := ⟨_, rfl⟩
        have hh1 : i ≤ h := by omega
        have hh2 : h < j := by omega
        have s2 : ((i : Int) + (j : Int)) / 2 = (h : Int) := by omega
        have hijn : i + j ≤ 8192 := by omega
        obtain ⟨r, hr⟩ : ∃ r, r = p - h := ⟨_, rfl⟩
        have hrn : r < n := by omega
        have s3 : IntKind.i64.wrap ((p : Int) - (h : Int)) = (r : Int) := by rw [hr, Int.ofNat_sub (by omega)]; exact IntWalk.i64_in _ (by omega)
        have s4 : (p : Int) - (h : Int) = (r : Int) := by omega
        have hqh := HQQ.out h
        rw [← hr] at hqh
        have HQH := Lib.hid hqh
        clear hh hr hqh
        have c1 := hown.cellAt r (by omega)
        have c2 := hown.cellAt h (by omega)
        rw [wds_get f l _ (by rw [HL.out]; omega)] at c1 c2
        have hx := getNat HMN.out r (by rw [HL.out]; omega)
        have hy := getNat HMN.out h (by rw [HL.out]; omega)
        have hbd : ∀ q, w0.grownBy (wr.drewN q) (some g) := fun q => grown_drewN hbl q
        have HCC := HCL.out
        have hcc : ∀ q, Calls Try.prog 131 #[.float .f32 (f (l[r]?.getD 0)), .float .f32 (f (l[h]?.getD 0))] (wr.drewN q) fun e w' => e = .returned (.int .i64 (cf (l[r]?.getD 0) (l[h]?.getD 0))) ∧ ∃ mq, w' = (wr.drewN q).drewN mq := fun q => HCC _ _ _ (hbd q) hx hy
        clear HCC hbd
        have hk2 := HCF.out _ _ hx hy
        have HUP : Hid (lt (l[r]?.getD 0) (l[h]?.getD 0) = false → Bs qq lo hi (h + 1) j) := Lib.hid fun hq => HBS.out.up hh1 hh2 (HQH.out.trans (by rw [hq]; rfl))
        have HDN : Hid (lt (l[r]?.getD 0) (l[h]?.getD 0) = true → Bs qq lo hi i h) := Lib.hid fun hq => HBS.out.down hh1 hh2 (HQH.out.trans (by rw [hq]; rfl))
        have hhn : (h : Int) < (n : Int) := by omega
        have hrn' : (r : Int) < (n : Int) := by omega
        generalize l[r]?.getD 0 = u at *
        generalize l[h]?.getD 0 = v at *
        generalize cf u v = z at *
        clear HBS HQH
        cases hlt2 : lt u v
        · rw [hlt2] at hk2 HUP
          have HE := Lib.hid (HUP.out rfl)
          clear hlt2 HUP HDN
          go_wp2
          go_quiet ((go_at_call 131; exact Calls.quiet_of (hcc _)))
          go_wp2
          go_roundw
          case rel => exact ⟨h + 1, j, by go_num, rfl, HE.out, own_drewN hown _, grown_drewN hbl _, grown_drewN hg _⟩
          case measure => simp only [intOf]; omega
        · rw [hlt2] at hk2 HDN
          have HE := Lib.hid (HDN.out rfl)
          clear hlt2 HUP HDN
          go_wp2
          go_quiet ((go_at_call 131; exact Calls.quiet_of (hcc _)))
          go_wp2
          go_roundw
          case rel => exact ⟨i, h, rfl, rfl, HE.out, own_drewN hown _, grown_drewN hbl _, grown_drewN hg _⟩
          case measure => simp only [intOf]; omega
      · obtain rfl : i = j := by omega
        obtain ⟨x, y, hs, he, hx, hy, hxy, hcut⟩ := symCut hsw HLL.out HA.out HM.out HB.out HAS.out HCS.out HMID.out HLO.out hlo2 (by have := HBS.out; rw [HQL.out, HPE.out] at this; exact this)
        rw [← HNE.out] at he
        obtain ⟨en, hen⟩ : ∃ en, en = nn - i := ⟨_, rfl⟩
        have hnn := HNE.out
        have hMM := HM.out
        have hBB := HB.out
        have e8 : IntKind.i64.wrap ((nn : Int) - (i : Int)) = (en : Int) := by rw [hen, Int.ofNat_sub (by omega)]; exact IntWalk.i64_in _ (by omega)
        have HCUT := Lib.hid hcut
        have HRR : Hid (Rot l m (m - i) (en - m) (P ++ (A.take x ++ (C.take y ++ (A.drop x ++ (C.drop y ++ S)))))) := Lib.hid (by
          have := symRot P A C S m x y (by rw [HA.out]; exact HM.out) hx hy
          rw [← HLL.out, show A.length - x = m - i by omega, show y = en - m by omega] at this
          rw [show y = en - m by omega]
          exact this)
        have HR : Hid (i < m → m < en → Calls Try.prog 152 #[.slice (some ⟨g, 0, none⟩) n c, .int .i64 (i : Int), .int .i64 (m : Int), .int .i64 (en : Int), .func (.func 131) #[] #[]] wr fun e w' => e = .returned (.tuple #[]) ∧ w'.ownsRow B 32 1 (.slice (some ⟨g, 0, none⟩) n c) n (wds f (symL1 P A C S x y)) ∧ wr.grownBy w' (some g)) := Lib.hid fun h1 h2 => rotW_any f (some ⟨g, 0, none⟩) c B n i m en l _ wr _ HL.out h1 h2 (by omega) HRR.out hn hown
        have R1 : Hid (∀ W, W.ownsRow B 32 1 (.slice (some ⟨g, 0, none⟩) n c) n (wds f (symL1 P A C S x y)) → w0.grownBy W (some g) → a < i → i < mid → Calls Try.prog 150 #[.slice (some ⟨g, 0, none⟩) n c, .int .i64 (a : Int), .int .i64 (i : Int), .int .i64 (mid : Int), .func (.func 131) #[] #[]] W fun e w' => e = .returned (.tuple #[]) ∧ w'.ownsRow B 32 1 (.slice (some ⟨g, 0, none⟩) n c) n (wds f (symL2 lt P A C S x y)) ∧ w0.grownBy w' (some g) ∧ W.grownBy w' (some g)) :=
          Lib.hid fun W hW hWb h1 h2 => HIH.out P (A.take x) (C.take y) (A.drop x ++ (C.drop y ++ S)) _ W a i mid (by have := HK.out; simp; omega) (by simp; omega) (by simp; omega) rfl (by rw [symL1_len, ← HLL.out, HL.out]) (symL1_mem (by rw [← HLL.out]; exact HMN.out)) HA.out (by simp; omega) (by simp; omega) (HAS.out.sublist (List.take_sublist _ _)) (HCS.out.sublist (List.take_sublist _ _)) hW hWb
        have R2 : Hid (∀ W, W.ownsRow B 32 1 (.slice (some ⟨g, 0, none⟩) n c) n (wds f (symL2 lt P A C S x y)) → w0.grownBy W (some g) → mid < en → en < b → Calls Try.prog 150 #[.slice (some ⟨g, 0, none⟩) n c, .int .i64 (mid : Int), .int .i64 (en : Int), .int .i64 (b : Int), .func (.func 131) #[] #[]] W fun e w' => e = .returned (.tuple #[]) ∧ w'.ownsRow B 32 1 (.slice (some ⟨g, 0, none⟩) n c) n (wds f (P ++ (mrg lt A C ++ S))) ∧ w0.grownBy w' (some g) ∧ W.grownBy w' (some g)) :=
          Lib.hid fun W hW hWb h1 h2 => by
            have := HIH.out (P ++ mrg lt (A.take x) (C.take y)) (A.drop x) (C.drop y) S _ W mid en b (by have := HK.out; simp; omega) (by simp; omega) (by simp; omega) rfl (by rw [List.append_assoc]; exact (symL2_len lt P A C S x y).trans (by rw [← HLL.out, HL.out])) (by rw [List.append_assoc]; exact symL2_mem (by rw [← HLL.out]; exact HMN.out)) (by have := HA.out; rw [List.length_append, mrg_len]; simp; omega) (by simp; omega) (by simp; omega) (HAS.out.sublist (List.drop_sublist _ _)) (HCS.out.sublist (List.drop_sublist _ _)) (by rw [List.append_assoc]; exact hW) hWb
            rw [hcut]
            simp only [List.append_assoc] at this ⊢
            exact this
        have hsz : g < wr.heap.size := Nat.lt_of_lt_of_le hgl hg.size
        have q1 : i < m ↔ mid < en := by omega
        have q2 : m < en ↔ i < mid := by omega
        have HXA : Hid (i = a + x ∧ m = a + A.length ∧ en = m + y ∧ b = m + C.length ∧ mid = a + x + y ∧ x ≤ A.length ∧ y ≤ C.length) := Lib.hid (by omega)
        clear hs he hx hy hxy hnn hMM hBB hen hcut HBS k1 k2 k3
        by_cases h1 : i < m <;> by_cases h2 : m < en <;> by_cases h3 : a < i <;> by_cases h4 : en < b
        · have h5 := q1.1 h1
          have h6 := q2.1 h2
          clear q1 q2
          go_wp2_with (first | (go_at_call 150; refine (R2.out _ ho2 hb2 h5 h4).mono ?_; rintro e w3 ⟨rfl, ho3, hb3, hg3⟩) | (go_at_call 150; refine (R1.out _ ho1 (grownBy_trans hbl hg1) h3 h6).mono ?_; rintro e w2 ⟨rfl, ho2, hb2, hg2⟩) | (go_at_call 152; refine (HR.out h1 h2).mono ?_; rintro e w1 ⟨rfl, ho1, hg1⟩))
          go_end0
          exact ⟨rfl, ho3, hb3, grownBy_trans hg (grownBy_trans hg1 (grownBy_trans hg2 hg3))⟩
        · have h5 := q1.1 h1
          have h6 := q2.1 h2
          have htwo := symTwo (P := P) (S := S) HCUT.out (by have := HXA.out; omega)
          clear q1 q2
          go_wp2_with (first | (go_at_call 150; refine (R1.out _ ho1 (grownBy_trans hbl hg1) h3 h6).mono ?_; rintro e w2 ⟨rfl, ho2, hb2, hg2⟩) | (go_at_call 152; refine (HR.out h1 h2).mono ?_; rintro e w1 ⟨rfl, ho1, hg1⟩))
          go_end0
          exact ⟨rfl, by rw [← htwo]; exact ho2, hb2, grownBy_trans hg (grownBy_trans hg1 hg2)⟩
        · have h5 := q1.1 h1
          have h6 := q2.1 h2
          have hone := symOne lt P A C S x y (by have := HXA.out; omega)
          clear q1 q2
          go_wp2_with (first | (go_at_call 150; refine (R2.out _ (by rw [← hone]; exact ho1) (grownBy_trans hbl hg1) h5 h4).mono ?_; rintro e w3 ⟨rfl, ho3, hb3, hg3⟩) | (go_at_call 152; refine (HR.out h1 h2).mono ?_; rintro e w1 ⟨rfl, ho1, hg1⟩))
          go_end0
          exact ⟨rfl, ho3, hb3, grownBy_trans hg (grownBy_trans hg1 hg3)⟩
        · have h5 := q1.1 h1
          have h6 := q2.1 h2
          have hone := symOne lt P A C S x y (by have := HXA.out; omega)
          have htwo := symTwo (P := P) (S := S) HCUT.out (by have := HXA.out; omega)
          clear q1 q2
          go_wp2_with ((go_at_call 152; refine (HR.out h1 h2).mono ?_; rintro e w1 ⟨rfl, ho1, hg1⟩))
          go_end0
          exact ⟨rfl, by rw [← htwo, ← hone]; exact ho1, (grownBy_trans hbl hg1), grownBy_trans hg hg1⟩
        · have h5 := q1.1 h1
          have h6 : ¬ i < mid := fun h => h2 (q2.2 h)
          have hst : symL1 P A C S x y = l := (symStay P A C S x y (by have := HXA.out; omega) (by have := HXA.out; omega)).trans HLL.out.symm
          have ho1 : wr.ownsRow B 32 1 (.slice (some ⟨g, 0, none⟩) n c) n (wds f (symL1 P A C S x y)) := by rw [hst]; exact hown
          have hone := symOne lt P A C S x y (by have := HXA.out; omega)
          clear q1 q2 hst
          go_wp2_with ((go_at_call 150; refine (R2.out _ (by rw [← hone]; exact ho1) hbl h5 h4).mono ?_; rintro e w3 ⟨rfl, ho3, hb3, hg3⟩))
          go_end0
          exact ⟨rfl, ho3, hb3, grownBy_trans hg hg3⟩
        · exfalso; have := HXA.out; have := HA2.out; have := HC2.out; omega
        · exfalso; have := HXA.out; have := HA2.out; have := HC2.out; omega
        · exfalso; have := HXA.out; have := HA2.out; have := HC2.out; omega
        · have h5 : ¬ mid < en := fun h => h1 (q1.2 h)
          have h6 := q2.1 h2
          have hst : symL1 P A C S x y = l := (symStay P A C S x y (by have := HXA.out; omega) (by have := HXA.out; omega)).trans HLL.out.symm
          have ho1 : wr.ownsRow B 32 1 (.slice (some ⟨g, 0, none⟩) n c) n (wds f (symL1 P A C S x y)) := by rw [hst]; exact hown
          have htwo := symTwo (P := P) (S := S) HCUT.out (by have := HXA.out; omega)
          clear q1 q2 hst
          go_wp2_with ((go_at_call 150; refine (R1.out _ ho1 hbl h3 h6).mono ?_; rintro e w2 ⟨rfl, ho2, hb2, hg2⟩))
          go_end0
          exact ⟨rfl, by rw [← htwo]; exact ho2, hb2, grownBy_trans hg hg2⟩
        · exfalso; have := HXA.out; have := HA2.out; have := HC2.out; omega
        · exfalso; have := HXA.out; have := HA2.out; have := HC2.out; omega
        · exfalso; have := HXA.out; have := HA2.out; have := HC2.out; omega
        · have h5 : ¬ mid < en := fun h => h1 (q1.2 h)
          have h6 : ¬ i < mid := fun h => h2 (q2.2 h)
          have hst : symL1 P A C S x y = l := (symStay P A C S x y (by have := HXA.out; omega) (by have := HXA.out; omega)).trans HLL.out.symm
          have ho1 : wr.ownsRow B 32 1 (.slice (some ⟨g, 0, none⟩) n c) n (wds f (symL1 P A C S x y)) := by rw [hst]; exact hown
          have hone := symOne lt P A C S x y (by have := HXA.out; omega)
          have htwo := symTwo (P := P) (S := S) HCUT.out (by have := HXA.out; omega)
          clear q1 q2 hst
          go_wp2
          go_end0
          exact ⟨rfl, by rw [← htwo, ← hone]; exact ho1, hbl, hg⟩
        · exfalso; have := HXA.out; have := HA2.out; have := HC2.out; omega
        · exfalso; have := HXA.out; have := HA2.out; have := HC2.out; omega
        · exfalso; have := HXA.out; have := HA2.out; have := HC2.out; omega

end Go.Proofs.Ytmocfnpbofeiiaa

/- The library's stable sort of float32 words, at any length up to 2000. -/
namespace Go.Proofs.Ytmocfnpbofeiiaa
set_option linter.unusedSimpArgs false
set_option linter.unusedVariables false
open Go.RowKit
theorem symAllFall {g : Nat} (f : Nat → Nat) (B N n : Nat) (w0 : World) (cf : Nat → Nat → Int) (lt : Nat → Nat → Bool) (hsw : SW lt) (hcf : ∀ x y, x < N → y < N → decide (cf x y < 0) = lt x y) (hcl : ClF Try.prog 131 f (some g) N w0 cf) (c : Nat) (hn : n ≤ 4096) (k : Nat) : SymKFall k n N B g c f w0 lt := by
  induction k with
  | zero => intro P A C S l w a m b hk hA1 hC1; omega
  | succ k ih => exact symSFall_any f B N n w0 cf lt hsw hcf hcl c k hn ih

set_option maxHeartbeats 2000000 in
theorem ins0Fall_any {g : Nat} (f : Nat → Nat) (B n a : Nat) (w : World) (c : Nat) (l : List Nat) (hn : n ≤ 4096) (han : a ≤ n) (hown : w.ownsRow B 32 1 (.slice (some ⟨g, 0, none⟩) n c) n (wds f l)) :
    Calls Try.prog 149 #[.slice (some ⟨g, 0, none⟩) n c, .int .i64 (a : Int), .int .i64 (a : Int), .func (.func 131) #[] #[]] w fun e w' => e = .returned (.tuple #[]) ∧ w = w' := by
  have e1 : IntKind.i64.wrap ((a : Int) + 1) = ((a + 1 : Nat) : Int) := by rw [Int.natCast_add]; exact IntWalk.i64_in _ (by omega)
  have e2 : decide (a + 1 < a) = false := decide_eq_false (by omega)
  generalize a + 1 = b at *
  clear hown
  go_enter Try.func149, Try.ntmps149
  go_wp2
  refine wp_loop_rounds 1 ?_
  rw [rounds_succ]
  go_wp2
  go_end0
  exact ⟨rfl, rfl⟩

set_option maxRecDepth 4000 in
set_option maxHeartbeats 2000000 in
theorem stableFall_any {g : Nat} (f : Nat → Nat) (B n : Nat) (w0 w : World) (cf : Nat → Nat → Int) (lt : Nat → Nat → Bool) (hsw : SW lt) (hcf : ∀ x y, x < n → y < n → decide (cf x y < 0) = lt x y) (hcl : ClF Try.prog 131 f (some g) n w0 cf) (c : Nat)
    (h1 : 1 ≤ n) (hn : n ≤ 2000) (hown : w.ownsRow B 32 1 (.slice (some ⟨g, 0, none⟩) n c) n (wds f (List.range n))) (hbl : w0.grownBy w (some g)) :
    Calls Try.prog 145 #[.slice (some ⟨g, 0, none⟩) n c, .int .i64 (n : Int), .func (.func 131) #[] #[]] w fun e w' => e = .returned (.tuple #[]) ∧ w'.ownsRow B 32 1 (.slice (some ⟨g, 0, none⟩) n c) n (wds f (ordX lt id n)) ∧ w0.grownBy w' (some g) ∧ w.grownBy w' (some g) := by
  obtain ⟨g', hg', hBg, hgl⟩ := own_some hown (by omega)
  obtain rfl : g = g' := by simpa using hg'
  clear hg'
  have HSW := Lib.hid hsw
  have HIN : Hid (∀ (a b : Nat) (l : List Nat) (W : World), l.Perm (List.range n) → a ≤ b → b ≤ n → W.ownsRow B 32 1 (.slice (some ⟨g, 0, none⟩) n c) n (wds f l) → w0.grownBy W (some g) →
      Calls Try.prog 149 #[.slice (some ⟨g, 0, none⟩) n c, .int .i64 (a : Int), .int .i64 (b : Int), .func (.func 131) #[] #[]] W fun e w' => e = .returned (.tuple #[]) ∧ w'.ownsRow B 32 1 (.slice (some ⟨g, 0, none⟩) n c) n (wds f (insR lt a l (b - a - 1))) ∧ w0.grownBy w' (some g) ∧ W.grownBy w' (some g)) := Lib.hid fun a b l W hp hab hbn hW hWb => by
    by_cases he : a = b
    · subst he
      refine (ins0Fall_any f B n a W c l (by omega) (by omega) hW).mono ?_
      rintro e w' ⟨rfl, rfl⟩
      rw [show a - a - 1 = 0 by omega]
      exact ⟨rfl, hW, hWb, World.grownBy.refl _ _⟩
    · have := insFall_any f B n n a (b - a) w0 W cf lt hcf hcl c l (perm_len hp) (perm_lt hp) (by omega) (by omega) (by omega) hW hWb
      rw [show a + (b - a) = b by omega] at this
      exact this
  have HSY : Hid (∀ (a m b : Nat) (l : List Nat) (W : World), l.Perm (List.range n) → a < m → m < b → b ≤ n → (seg l a m).Pairwise (RR lt) → (seg l m b).Pairwise (RR lt) → W.ownsRow B 32 1 (.slice (some ⟨g, 0, none⟩) n c) n (wds f l) → w0.grownBy W (some g) →
      Calls Try.prog 150 #[.slice (some ⟨g, 0, none⟩) n c, .int .i64 (a : Int), .int .i64 (m : Int), .int .i64 (b : Int), .func (.func 131) #[] #[]] W fun e w' => e = .returned (.tuple #[]) ∧ w'.ownsRow B 32 1 (.slice (some ⟨g, 0, none⟩) n c) n (wds f (l.take a ++ (mrg lt (seg l a m) (seg l m b) ++ l.drop b))) ∧ w0.grownBy w' (some g) ∧ W.grownBy w' (some g)) := Lib.hid fun a m b l W hp ham hmb hbn hA hC hW hWb => by
    have hl := perm_len hp
    have s1 := seg_length l a m (by omega)
    have s2 := seg_length l m b (by omega)
    exact symAllFall f B n n w0 cf lt hsw hcf hcl c (by omega) (b - a) (l.take a) (seg l a m) (seg l m b) (l.drop b) l W a m b (by omega) (by omega) (by omega) (seg_two l a m b (by omega) (by omega)) hl (perm_lt hp) (by simp; omega) (by omega) (by omega) (RR.ns hA) (RR.ns hC) hW hWb
  clear hsw hcf hcl
  go_enter Try.func145, Try.ntmps145
  go_wp2
  go_loopw [7, 8] (fun q r wr => ∃ (a : Nat) (l : List Nat), q = .int .i64 (a : Int) ∧ r = .int .i64 ((a + 20 : Nat) : Int) ∧ a ≤ n ∧ Fst lt n 20 a l ∧ wr.ownsRow B 32 1 (.slice (some ⟨g, 0, none⟩) n c) n (wds f l) ∧ w0.grownBy wr (some g) ∧ w.grownBy wr (some g)) (fun q _ _ => n - (intOf q).toNat)
  case atStart => exact ⟨0, _, rfl, rfl, Nat.zero_le _, Fst.start _ _ _, hown, hbl, World.grownBy.refl _ _⟩
  case round =>
    clear hown hbl
    obtain ⟨a, l, rfl, rfl, han, hfst, hown, hbl, hg⟩ := hrel
    have HF := Lib.hid hfst
    clear hfst
    obtain ⟨b, hb⟩ : ∃ b, b = a + 20 := ⟨_, rfl⟩
    rw [← hb]
    by_cases hbn : b ≤ n
    · have h5 : decide ((b : Int) ≤ (n : Int)) = true := decide_eq_true (by omega)
      have h6 : IntKind.i64.wrap ((b : Int) + 20) = ((b + 20 : Nat) : Int) := by rw [Int.natCast_add]; exact IntWalk.i64_in _ (by omega)
      have HB := Lib.hid hb
      have hab : a ≤ b := by omega
      clear hb
      go_wp2_with (go_at_call 149; refine (HIN.out a b l _ HF.out.1 hab hbn hown hbl).mono ?_; rintro e w1 ⟨rfl, ho1, hb1, hg1⟩)
      go_roundw
      case rel => exact ⟨b, _, rfl, rfl, hbn, by have := HF.out.step HSW.out (b := b) (by omega) (by have := HB.out; omega) (by have := HB.out; omega); rw [← HB.out] at this; exact this, ho1, hb1, grownBy_trans hg hg1⟩
      case measure => simp [intOf]; have := HB.out; omega
    · have h5 : decide ((b : Int) ≤ (n : Int)) = false := decide_eq_false (by omega)
      obtain ⟨L0, hL0⟩ : ∃ L0, L0 = insR lt a l (n - a - 1) := ⟨_, rfl⟩
      have HP : Hid (Pss lt n 20 0 L0) := Lib.hid (by
        by_cases he : a = n
        · have : L0 = l := by rw [hL0, he, show n - n - 1 = 0 by omega]; rfl
          rw [this]
          exact HF.out.fin (by omega)
        · rw [hL0]
          exact (HF.out.step HSW.out (b := n) (by omega) (by omega) (by omega)).fin (by omega))
      have HI := Lib.hid (HIN.out a n l wr HF.out.1 han (Nat.le_refl _) hown hbl)
      rw [← hL0] at HI
      clear hL0 HF hown hbl hb
      go_wp2_with (go_at_call 149; refine HI.out.mono ?_; rintro e w1 ⟨rfl, hown, hbl, hg1⟩)
      have hgw := grownBy_trans hg hg1
      clear hg hg1 HI
      clear h5 hbn han
      go_loopw [6] (fun q wr => ∃ (s : Nat) (l : List Nat), q = .int .i64 (s : Int) ∧ 20 ≤ s ∧ s ≤ 4000 ∧ Pss lt n s 0 l ∧ wr.ownsRow B 32 1 (.slice (some ⟨g, 0, none⟩) n c) n (wds f l) ∧ w0.grownBy wr (some g) ∧ w.grownBy wr (some g)) (fun q _ => n - (intOf q).toNat)
      case atStart => exact ⟨20, L0, rfl, by omega, by omega, HP.out, hown, hbl, hgw⟩
      case round =>
        clear hown hbl hgw HP
        obtain ⟨s, l, rfl, hs1, hs2, hpss, hown, hbl, hg⟩ := hrel
        have HF := Lib.hid hpss
        clear hpss
        by_cases hsn : s < n
        · have h5 : decide ((s : Int) < (n : Int)) = true := decide_eq_true (by omega)
          have h6 : IntKind.i64.wrap (2 * (s : Int)) = ((2 * s : Nat) : Int) := by rw [Int.natCast_mul]; exact IntWalk.i64_in _ (by omega)
          have h7 : IntKind.i64.wrap ((s : Int) * 2) = ((2 * s : Nat) : Int) := by rw [Int.natCast_mul, Int.mul_comm]; exact IntWalk.i64_in _ (by omega)
          obtain ⟨s2, hs3⟩ : ∃ s2, s2 = 2 * s := ⟨_, rfl⟩
          rw [← hs3] at h6 h7
          have HS2 := Lib.hid hs3
          have hs4 : s < s2 := by omega
          have hs5 : s2 ≤ 4000 := by omega
          clear hs3
          go_wp2
          go_loopw [7, 8] (fun q r wr => ∃ (a : Nat) (l : List Nat), q = .int .i64 (a : Int) ∧ r = .int .i64 ((a + s2 : Nat) : Int) ∧ a ≤ n ∧ Pss lt n s a l ∧ wr.ownsRow B 32 1 (.slice (some ⟨g, 0, none⟩) n c) n (wds f l) ∧ w0.grownBy wr (some g) ∧ w.grownBy wr (some g)) (fun q _ _ => n - (intOf q).toNat)
          case atStart => exact ⟨0, l, rfl, by rw [Nat.zero_add], Nat.zero_le _, HF.out, hown, hbl, hg⟩
          case round =>
            clear hown hbl hg HF
            obtain ⟨a, l, rfl, rfl, han, hpss, hown, hbl, hg⟩ := hrel
            have HF := Lib.hid hpss
            clear hpss
            have h8 : IntKind.i64.wrap ((a : Int) + (s : Int)) = ((a + s : Nat) : Int) := by rw [Int.natCast_add]; exact IntWalk.i64_in _ (by omega)
            obtain ⟨b, hb⟩ : ∃ b, b = a + s2 := ⟨_, rfl⟩
            obtain ⟨m, hm⟩ : ∃ m, m = a + s := ⟨_, rfl⟩
            rw [← hb]
            rw [← hm] at h8
            have HB := Lib.hid hb
            have HM := Lib.hid hm
            by_cases hbn : b ≤ n
            · have h9 : decide ((b : Int) ≤ (n : Int)) = true := decide_eq_true (by omega)
              have h10 : IntKind.i64.wrap ((b : Int) + (s2 : Int)) = ((b + s2 : Nat) : Int) := by rw [Int.natCast_add]; exact IntWalk.i64_in _ (by omega)
              have hab : a < b := by omega
              have HC : Hid (Calls Try.prog 150 #[.slice (some ⟨g, 0, none⟩) n c, .int .i64 (a : Int), .int .i64 (m : Int), .int .i64 (b : Int), .func (.func 131) #[] #[]] wr fun e w' => e = .returned (.tuple #[]) ∧ w'.ownsRow B 32 1 (.slice (some ⟨g, 0, none⟩) n c) n (wds f (l.take a ++ (mrg lt (seg l a m) (seg l m b) ++ l.drop b))) ∧ w0.grownBy w' (some g) ∧ wr.grownBy w' (some g)) := Lib.hid (by
                obtain ⟨h1, h2, h3, h4⟩ := HF.out
                have hsa := Nat.dvd_trans (⟨2, by omega⟩ : s ∣ 2 * s) h2
                have t1 := h4 a (by omega) hsa (Nat.le_refl _)
                have t2 := h4 m (by omega) (by rw [HM.out]; exact Nat.dvd_add hsa (Nat.dvd_refl _)) (by omega)
                have := HS2.out
                rw [show min (a + s) n = m by omega] at t1
                rw [show min (m + s) n = b by omega] at t2
                exact HSY.out a m b l wr h1 (by omega) (by omega) (by omega) t1.1 t2.1 hown hbl)
              have HST : Hid (Pss lt n s b (l.take a ++ (mrg lt (seg l a m) (seg l m b) ++ l.drop b))) := Lib.hid (by
                have := HS2.out
                have := HF.out.step HSW.out (b := b) (by omega) (by omega) (by omega)
                rw [← HM.out, ← HS2.out, ← HB.out] at this
                exact this)
              generalize l.take a ++ (mrg lt (seg l a m) (seg l m b) ++ l.drop b) = l2 at *
              clear hb hm hown hbl
              go_wp2_with (go_at_call 150; refine HC.out.mono ?_; rintro e w1 ⟨rfl, hown, hbl, hg1⟩)
              go_roundw
              case rel => exact ⟨b, l2, rfl, rfl, hbn, HST.out, hown, hbl, grownBy_trans hg hg1⟩
              case measure => simp [intOf]; omega
            · have h9 : decide ((b : Int) ≤ (n : Int)) = false := decide_eq_false (by omega)
              by_cases hmn : m < n
              · have h10 : decide ((m : Int) < (n : Int)) = true := decide_eq_true (by omega)
                have HC : Hid (Calls Try.prog 150 #[.slice (some ⟨g, 0, none⟩) n c, .int .i64 (a : Int), .int .i64 (m : Int), .int .i64 (n : Int), .func (.func 131) #[] #[]] wr fun e w' => e = .returned (.tuple #[]) ∧ w'.ownsRow B 32 1 (.slice (some ⟨g, 0, none⟩) n c) n (wds f (l.take a ++ (mrg lt (seg l a m) (seg l m n) ++ l.drop n))) ∧ w0.grownBy w' (some g) ∧ wr.grownBy w' (some g)) := Lib.hid (by
                  obtain ⟨h1, h2, h3, h4⟩ := HF.out
                  have hsa := Nat.dvd_trans (⟨2, by omega⟩ : s ∣ 2 * s) h2
                  have t1 := h4 a (by omega) hsa (Nat.le_refl _)
                  have t2 := h4 m (by omega) (by rw [HM.out]; exact Nat.dvd_add hsa (Nat.dvd_refl _)) (by omega)
                  have := HS2.out
                  rw [show min (a + s) n = m by omega] at t1
                  rw [show min (m + s) n = n by omega] at t2
                  exact HSY.out a m n l wr h1 (by omega) (by omega) (Nat.le_refl _) t1.1 t2.1 hown hbl)
                have HST : Hid (Pss lt n s2 0 (l.take a ++ (mrg lt (seg l a m) (seg l m n) ++ l.drop n))) := Lib.hid (by
                  have := HS2.out
                  have h := HF.out.step HSW.out (b := n) (by omega) (by omega) (by omega)
                  have h2 := h.fin (by omega) (by omega)
                  rw [← HM.out, ← HS2.out] at h2
                  exact h2)
                generalize l.take a ++ (mrg lt (seg l a m) (seg l m n) ++ l.drop n) = l2 at *
                clear hb hm hown hbl
                go_wp2_with (go_at_call 150; refine HC.out.mono ?_; rintro e w1 ⟨rfl, hown, hbl, hg1⟩)
                go_roundw
                case rel => exact ⟨s2, l2, by go_num, by omega, hs5, HST.out, hown, hbl, grownBy_trans hg hg1⟩
                case measure => simp [intOf]; omega
              · have h10 : decide ((m : Int) < (n : Int)) = false := decide_eq_false (by omega)
                have HST : Hid (Pss lt n s2 0 l) := Lib.hid (by
                  have := HS2.out
                  have h2 := HF.out.fin (by omega) (by omega)
                  rw [← HS2.out] at h2
                  exact h2)
                clear hb hm
                go_wp2
                go_roundw
                case rel => exact ⟨s2, l, by go_num, by omega, hs5, HST.out, hown, hbl, hg⟩
                case measure => simp [intOf]; omega
        · have h5 : decide ((s : Int) < (n : Int)) = false := decide_eq_false (by omega)
          have hfin := HF.out.all HSW.out h1 (by omega)
          subst hfin
          go_wp2
          go_end0
          exact ⟨rfl, hown, hbl, hg⟩

set_option maxHeartbeats 1000000 in
theorem sortFall_any {g : Nat} (f : Nat → Nat) (B n : Nat) (w0 w : World) (cf : Nat → Nat → Int) (lt : Nat → Nat → Bool) (hsw : SW lt) (hcf : ∀ x y, x < n → y < n → decide (cf x y < 0) = lt x y) (hcl : ClF Try.prog 131 f (some g) n w0 cf) (c : Nat)
    (h1 : 1 ≤ n) (hn : n ≤ 2000) (hown : w.ownsRow B 32 1 (.slice (some ⟨g, 0, none⟩) n c) n (wds f (List.range n))) (hbl : w0.grownBy w (some g)) :
    Calls Try.prog 130 #[.slice (some ⟨g, 0, none⟩) n c, .func (.func 131) #[] #[]] w fun e w' => e = .returned (.tuple #[]) ∧ w'.ownsRow B 32 1 (.slice (some ⟨g, 0, none⟩) n c) n (wds f (ordX lt id n)) ∧ w0.grownBy w' (some g) ∧ w.grownBy w' (some g) := by
  have HS := Lib.hid (stableFall_any f B n w0 w cf lt hsw hcf hcl c h1 hn hown hbl)
  clear hsw hcf hcl hown hbl
  go_enter Try.func130, Try.ntmps130
  go_wp2_with (go_at_call 145; refine HS.out.mono ?_; rintro e w1 ⟨rfl, ho, hb, hg⟩)
  go_end0
  exact ⟨rfl, ho, hb, hg⟩

end Go.Proofs.Ytmocfnpbofeiiaa
