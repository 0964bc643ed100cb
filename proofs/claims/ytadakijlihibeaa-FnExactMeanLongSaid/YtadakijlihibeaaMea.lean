/- The mean length of words. -/
import Derived.Test.YtadakijlihibeaaFlt
namespace Go.Proofs.Ytadakijlihibeaa
set_option linter.unusedSimpArgs false
set_option linter.unusedVariables false
open Go.RowKit


/-- The sum of products with whole numbers. -/
def mnS (rs : List Nat) (ls : List Int) : Nat → Nat
  | 0 => 0
  | k + 1 => fA .add .f32 (mnS rs ls k) (fA .mul .f32 (rs[k]?.getD 0) (floatOfInt .f32 (ls[k]?.getD 0)))
theorem foi_ch {n : Int} (h : inB n 1 32 = true) : Ch (floatOfInt .f32 n) := by
  obtain ⟨h1, h2⟩ := inB_true h
  have key : ∀ k : Nat, k < 33 → floatOfInt .f32 (k : Int) < 2139095040 := by decide +kernel
  have := key n.toNat (by omega)
  rw [Int.toNat_of_nonneg (by omega)] at this
  exact .inl this
theorem mnS_le {rs : List Nat} {ls : List Int} (h : ∀ x ∈ rs, Ch x) (hl : ∀ n ∈ ls, inB n 1 32 = true) (he : rs.length = ls.length) : ∀ k, k ≤ rs.length → mnS rs ls k ≤ 2139095040 := by
  intro k
  induction k with
  | zero => intro _; exact Nat.zero_le _
  | succ k ih =>
    intro hk
    exact (add_pn (ih (by omega)) (mul_ch (get_pn h (by omega)) (foi_ch (by rw [List.getElem?_eq_getElem (by omega)]; exact hl _ (List.getElem_mem _)))).2).2.1
def mnOk (ls : List Int) (rs : List Nat) : Bool := validC ls && rowB rs && decide (rs.length = ls.length)
def out_MeanLong (ls : List Int) (rs : List Nat) : Nat × Bool := if mnOk ls rs then (fz (mnS rs ls rs.length), finB (mnS rs ls rs.length)) else (0, false)
theorem nan_fin {x : Nat} (h : finB x = true) : nanB x = false := by
  have := of_decide_eq_true h
  exact decide_eq_false (by omega)
theorem nan0_MeanLong (ls : List Int) (_ : ∀ x ∈ ls, I64 x) (_ : ls.length ≤ 1048576) (rs : List Nat) (_ : ∀ x ∈ rs, x < 4294967296) (_ : rs.length ≤ 1048576) : nanB (out_MeanLong ls rs).1 = false := by
  unfold out_MeanLong
  split
  · exact fz_nan _
  · rfl
theorem validC_all {ls : List Int} (h : validC ls = true) : ∀ n ∈ ls, inB n 1 32 = true := by
  unfold validC at h
  simp only [Bool.and_eq_true] at h
  exact fun n hn => List.all_eq_true.1 h.1.2 n hn
theorem mean_no {ls : List Int} {rs : List Nat} (h : mnOk ls rs = false) : out_MeanLong ls rs = (0, false) := by unfold out_MeanLong; rw [h]; rfl
theorem mean_yes {ls : List Int} {rs : List Nat} (h : mnOk ls rs = true) : out_MeanLong ls rs = (fz (mnS rs ls rs.length), finB (mnS rs ls rs.length)) := by unfold out_MeanLong; rw [h]; rfl

set_option maxHeartbeats 4000000 in
theorem impl_MeanLong (w : World) (v : Value) (ls : List Int) (hv : SlR w v (ls.map (Value.int .i64))) (_ : ∀ x ∈ ls, I64 x) (_ : ls.length ≤ 1048576) (u : Value) (rs : List Nat) (hu : SlR w u (rs.map (Value.float .f32))) (hx : ∀ x ∈ rs, x < 4294967296) (_ : rs.length ≤ 1048576) :
    Calls Try.prog 48 #[.agg #[v], u] w fun e w' => e = .returned (.tuple #[.float .f32 (out_MeanLong ls rs).1, .bool (out_MeanLong ls rs).2]) ∧ Below w.heap.size w w' := by
  have HX := Lib.hid hx
  clear hx
  have hb0 : Below w.heap.size w (w.alloc (.cells #[v] 59)) := by go_grown
  have hv1 := hv.below hb0
  have hu1 := hu.below hb0
  have hcc : (w.alloc (.cells #[v] 59)).cell? ⟨w.heap.size, 0, none⟩ = some v := by simp
  cases h1 : validC ls
  · rw [mean_no (by unfold mnOk; rw [h1]; rfl)]
    have H1 := Lib.hid h1
    clear h1
    go_enter Try.func48, Try.ntmps48
    go_wp2_with (go_at_call 96; refine (implValidCode_any _ ls _ hv1).mono ?_; rw [H1.out]; rintro e w1 ⟨rfl, hb⟩; have hb1 := hb0.trans (hb.mono (by simp)); have hc1 := cell_step hcc hb; have hu2 := hu1.below hb; clear hb)
    go_ret2
    exact ⟨rfl, hb1⟩
  · cases h2 : rowB rs
    · rw [mean_no (by unfold mnOk; rw [h1, h2]; rfl)]
      have H1 := Lib.hid h1
      have H2 := Lib.hid h2
      clear h1 h2
      go_enter Try.func48, Try.ntmps48
      go_wp2_with (first | (go_at_call 96; refine (implValidCode_any _ ls _ hv1).mono ?_; rw [H1.out]; rintro e w1 ⟨rfl, hb⟩; have hb1 := hb0.trans (hb.mono (by simp)); have hc1 := cell_step hcc hb; have hu2 := hu1.below hb; clear hb) | (go_at_call 65; refine (isRow_any _ rs _ hu2 HX.out).mono ?_; rw [H2.out]; rintro e w2 ⟨rfl, hqu2⟩; have hb2 := hb1.trans (hqu2.below _); have hc2 := cell_step hc1 hqu2.keep; clear hqu2))
      go_ret2
      exact ⟨rfl, hb2⟩
    · obtain ⟨al, nl, cl, rfl, hnl, hncl, hcml, hcell⟩ := SlR.opened 0 hv
      obtain ⟨ar, nr, cr, rfl, hnr, hncr, hcmr, hcellr⟩ := SlR.opened 0 hu
      have hnl9 : nl ≤ 9223372036854775807 := by unfold maxLen at hcml; omega
      obtain ⟨-, hr32, -⟩ := rowB_one h2
      have hnr9 : nr ≤ 32 := by omega
      by_cases h3 : nr = nl
      · subst h3
        have htest : ((nr : Int) != (nr : Int)) = false := by simp
        have hch := oneB_ch (rowB_one h2).2.2
        rw [mean_yes (by unfold mnOk; rw [h1, h2, hnl, hnr]; simp)]
        have H1 := Lib.hid h1
        have H2 := Lib.hid h2
        have HCH := Lib.hid hch
        have HLB := Lib.hid (validC_all h1)
        have HMS := Lib.hid (mnS_le hch (validC_all h1) (by omega))
        have HC := Lib.hid hcell
        have HR := Lib.hid hcellr
        have HNL := Lib.hid hnl
        have HNR := Lib.hid hnr
        have HNR2 := Lib.hid hnr
        clear h1 h2 hch hcell hcellr hncl hcml hncr hcmr hv hr32
        rw [hnr]
        clear hnl hnr
        go_enter Try.func48, Try.ntmps48
        go_wp2_with (first | (go_at_call 96; refine (implValidCode_any _ ls _ hv1).mono ?_; rw [H1.out]; rintro e w1 ⟨rfl, hb⟩; have hb1 := hb0.trans (hb.mono (by simp)); have hc1 := cell_step hcc hb; have hu2 := hu1.below hb; clear hb) | (go_at_call 65; refine (isRow_any _ rs _ hu2 HX.out).mono ?_; rw [H2.out]; rintro e w2 ⟨rfl, hqu2⟩; have hb2 := hb1.trans (hqu2.below _); have hc2 := cell_step hc1 hqu2.keep; clear hqu2))
        clear hc1 hb1
        go_loopw [6, 27] (fun s i wr => ∃ k : Nat, k ≤ nr ∧ i = .int .i64 k ∧ s = .float .f32 (mnS rs ls k) ∧ Qu w2 wr) (fun _ i _ => nr - (intOf i).toNat)
        case atStart => exact ⟨0, Nat.zero_le _, rfl, rfl, Qu.refl _⟩
        case round =>
          obtain ⟨k, hk, rfl, rfl, hqu⟩ := hrel
          by_cases hlt : k < nr
          · obtain ⟨b, off, rfl, hcl0, hbl⟩ := HC.out k hlt
            obtain ⟨b', off', rfl, hcr0, hbr⟩ := HR.out k hlt
            rw [List.getD_eq_getElem?_getD] at hcl0 hcr0
            have hcl := cell_step hcl0 (hb2.trans (hqu.below _))
            have hcr := cell_step hcr0 (hb2.trans (hqu.below _))
            have hcb := cell_step hc2 hqu.keep
            have hms := HMS.out k (by rw [HNR.out]; omega)
            have hkr : k < rs.length := by rw [HNR.out]; exact hlt
            have hkl : k < ls.length := by rw [HNL.out]; exact hlt
            have hlb : inB (ls[k]?.getD 0) 1 32 = true := by rw [List.getElem?_eq_getElem hkl]; exact HLB.out _ (List.getElem_mem _)
            have hml := mul_ch (get_pn HCH.out hkr) (foi_ch hlb)
            have hm1 := hml.1
            have hm2 := (add_pn hms hml.2).1
            have HS : Hid (mnS rs ls (k + 1) = fA .add .f32 (mnS rs ls k) (fA .mul .f32 (rs[k]?.getD 0) (floatOfInt .f32 (ls[k]?.getD 0)))) := rfl
            clear hms hml hlb hcl0 hcr0 hkr hkl
            generalize rs[k]?.getD 0 = x at *
            generalize ls[k]?.getD 0 = z at *
            generalize mnS rs ls k = t at *
            go_wp2
            go_roundw
            case rel => exact ⟨k + 1, by omega, by go_num, by rw [HS.out], by first | exact hqu | exact hqu.drewN _⟩
            case measure => simp [intOf]; omega
          · obtain rfl : nr = k := by omega
            go_wp2_with (go_at_call 97; refine (asNumber_any _ _).mono ?_; rintro e w5 ⟨rfl, mq, rfl⟩)
            go_ret2
            exact ⟨rfl, below_drewN (hb2.trans (hqu.below _)) _⟩
      · have htest : ((nr : Int) != (nl : Int)) = true := by rw [bne_iff_ne]; omega
        rw [mean_no (by unfold mnOk; rw [h1, h2, hnl, hnr, decide_eq_false h3]; rfl)]
        have H1 := Lib.hid h1
        have H2 := Lib.hid h2
        clear h1 h2 hnl hnr h3 hcell hcellr hncl hcml hncr hcmr
        go_enter Try.func48, Try.ntmps48
        go_wp2_with (first | (go_at_call 96; refine (implValidCode_any _ ls _ hv1).mono ?_; rw [H1.out]; rintro e w1 ⟨rfl, hb⟩; have hb1 := hb0.trans (hb.mono (by simp)); have hc1 := cell_step hcc hb; have hu2 := hu1.below hb; clear hb) | (go_at_call 65; refine (isRow_any _ rs _ hu2 HX.out).mono ?_; rw [H2.out]; rintro e w2 ⟨rfl, hqu2⟩; have hb2 := hb1.trans (hqu2.below _); have hc2 := cell_step hc1 hqu2.keep; clear hqu2))
        go_ret2
        exact ⟨rfl, hb2⟩

set_option maxHeartbeats 4000000 in
theorem spec_MeanLong (w : World) (v : Value) (ls : List Int) (hv : SlR w v (ls.map (Value.int .i64))) (_ : ∀ x ∈ ls, I64 x) (_ : ls.length ≤ 1048576) (u : Value) (rs : List Nat) (hu : SlR w u (rs.map (Value.float .f32))) (hx : ∀ x ∈ rs, x < 4294967296) (_ : rs.length ≤ 1048576) :
    Calls Try.prog 45 #[.agg #[v], u] w fun e w' => e = .returned (.tuple #[.float .f32 (out_MeanLong ls rs).1, .bool (out_MeanLong ls rs).2]) ∧ Below w.heap.size w w' := by
  have HX := Lib.hid hx
  clear hx
  have hb0 : Below w.heap.size w (w.alloc (.cells #[v] 59)) := by go_grown
  have hv1 := hv.below hb0
  have hu1 := hu.below hb0
  have hcc : (w.alloc (.cells #[v] 59)).cell? ⟨w.heap.size, 0, none⟩ = some v := by simp
  cases h1 : validC ls
  · rw [mean_no (by unfold mnOk; rw [h1]; rfl)]
    have H1 := Lib.hid h1
    clear h1
    go_enter Try.func45, Try.ntmps45
    go_wp2_with (go_at_call 93; refine (l04Is_any _ _ ls _ hcc hv1).mono ?_; rw [H1.out]; rintro e w1 ⟨rfl, hqu⟩; have hb1 := hb0.trans (hqu.below _); have hc1 := cell_step hcc hqu.keep; have hu2 := hu1.below hqu.keep; clear hqu)
    go_ret2
    exact ⟨rfl, hb1⟩
  · cases h2 : rowB rs
    · rw [mean_no (by unfold mnOk; rw [h1, h2]; rfl)]
      have H1 := Lib.hid h1
      have H2 := Lib.hid h2
      clear h1 h2
      go_enter Try.func45, Try.ntmps45
      go_wp2_with (first | (go_at_call 93; refine (l04Is_any _ _ ls _ hcc hv1).mono ?_; rw [H1.out]; rintro e w1 ⟨rfl, hqu⟩; have hb1 := hb0.trans (hqu.below _); have hc1 := cell_step hcc hqu.keep; have hu2 := hu1.below hqu.keep; clear hqu) | (go_at_call 94; refine (l02Row_any _ rs _ hu2 HX.out).mono ?_; rw [H2.out]; rintro e w2 ⟨rfl, hqu2⟩; have hb2 := hb1.trans (hqu2.below _); have hc2 := cell_step hc1 hqu2.keep; clear hqu2))
      go_ret2
      exact ⟨rfl, hb2⟩
    · obtain ⟨al, nl, cl, rfl, hnl, hncl, hcml, hcell⟩ := SlR.opened 0 hv
      obtain ⟨ar, nr, cr, rfl, hnr, hncr, hcmr, hcellr⟩ := SlR.opened 0 hu
      have hnl9 : nl ≤ 9223372036854775807 := by unfold maxLen at hcml; omega
      obtain ⟨-, hr32, -⟩ := rowB_one h2
      have hnr9 : nr ≤ 32 := by omega
      by_cases h3 : nr = nl
      · subst h3
        have htest : ((nr : Int) != (nr : Int)) = false := by simp
        have hch := oneB_ch (rowB_one h2).2.2
        rw [mean_yes (by unfold mnOk; rw [h1, h2, hnl, hnr]; simp)]
        have H1 := Lib.hid h1
        have H2 := Lib.hid h2
        have HCH := Lib.hid hch
        have HLB := Lib.hid (validC_all h1)
        have HMS := Lib.hid (mnS_le hch (validC_all h1) (by omega))
        have HC := Lib.hid hcell
        have HR := Lib.hid hcellr
        have HNL := Lib.hid hnl
        have HNR := Lib.hid hnr
        have HNR2 := Lib.hid hnr
        clear h1 h2 hch hcell hcellr hncl hcml hncr hcmr hv hr32
        rw [hnr]
        clear hnl hnr
        go_enter Try.func45, Try.ntmps45
        go_wp2_with (first | (go_at_call 93; refine (l04Is_any _ _ ls _ hcc hv1).mono ?_; rw [H1.out]; rintro e w1 ⟨rfl, hqu⟩; have hb1 := hb0.trans (hqu.below _); have hc1 := cell_step hcc hqu.keep; have hu2 := hu1.below hqu.keep; clear hqu) | (go_at_call 94; refine (l02Row_any _ rs _ hu2 HX.out).mono ?_; rw [H2.out]; rintro e w2 ⟨rfl, hqu2⟩; have hb2 := hb1.trans (hqu2.below _); have hc2 := cell_step hc1 hqu2.keep; clear hqu2))
        clear hc1 hb1
        go_loopw [6, 7] (fun s i wr => ∃ k : Nat, k ≤ nr ∧ i = .int .i64 k ∧ s = .float .f32 (mnS rs ls k) ∧ Qu w2 wr) (fun _ i _ => nr - (intOf i).toNat)
        case atStart => exact ⟨0, Nat.zero_le _, rfl, rfl, Qu.refl _⟩
        case round =>
          obtain ⟨k, hk, rfl, rfl, hqu⟩ := hrel
          by_cases hlt : k < nr
          · obtain ⟨b, off, rfl, hcl0, hbl⟩ := HC.out k hlt
            obtain ⟨b', off', rfl, hcr0, hbr⟩ := HR.out k hlt
            rw [List.getD_eq_getElem?_getD] at hcl0 hcr0
            have hcl := cell_step hcl0 (hb2.trans (hqu.below _))
            have hcr := cell_step hcr0 (hb2.trans (hqu.below _))
            have hcb := cell_step hc2 hqu.keep
            have hms := HMS.out k (by rw [HNR.out]; omega)
            have hkr : k < rs.length := by rw [HNR.out]; exact hlt
            have hkl : k < ls.length := by rw [HNL.out]; exact hlt
            have hlb : inB (ls[k]?.getD 0) 1 32 = true := by rw [List.getElem?_eq_getElem hkl]; exact HLB.out _ (List.getElem_mem _)
            have hml := mul_ch (get_pn HCH.out hkr) (foi_ch hlb)
            have hm1 := hml.1
            have hm2 := (add_pn hms hml.2).1
            have HS : Hid (mnS rs ls (k + 1) = fA .add .f32 (mnS rs ls k) (fA .mul .f32 (rs[k]?.getD 0) (floatOfInt .f32 (ls[k]?.getD 0)))) := rfl
            clear hms hml hlb hcl0 hcr0 hkr hkl
            generalize rs[k]?.getD 0 = x at *
            generalize ls[k]?.getD 0 = z at *
            generalize mnS rs ls k = t at *
            go_wp2
            go_quiet (fail)
            go_wp2
            go_roundw
            case rel => exact ⟨k + 1, by omega, by go_num, by rw [HS.out], by first | exact hqu | exact hqu.drewN _⟩
            case measure => simp [intOf]; omega
          · obtain rfl : nr = k := by omega
            go_wp2_with (go_at_call 95; refine (l02Number_any _ _).mono ?_; rintro e w5 ⟨rfl, mq, rfl⟩)
            go_ret2
            exact ⟨rfl, below_drewN (hb2.trans (hqu.below _)) _⟩
      · have htest : ((nr : Int) != (nl : Int)) = true := by rw [bne_iff_ne]; omega
        rw [mean_no (by unfold mnOk; rw [h1, h2, hnl, hnr, decide_eq_false h3]; rfl)]
        have H1 := Lib.hid h1
        have H2 := Lib.hid h2
        clear h1 h2 hnl hnr h3 hcell hcellr hncl hcml hncr hcmr
        go_enter Try.func45, Try.ntmps45
        go_wp2_with (first | (go_at_call 93; refine (l04Is_any _ _ ls _ hcc hv1).mono ?_; rw [H1.out]; rintro e w1 ⟨rfl, hqu⟩; have hb1 := hb0.trans (hqu.below _); have hc1 := cell_step hcc hqu.keep; have hu2 := hu1.below hqu.keep; clear hqu) | (go_at_call 94; refine (l02Row_any _ rs _ hu2 HX.out).mono ?_; rw [H2.out]; rintro e w2 ⟨rfl, hqu2⟩; have hb2 := hb1.trans (hqu2.below _); have hc2 := cell_step hc1 hqu2.keep; clear hqu2))
        go_ret2
        exact ⟨rfl, hb2⟩

end Go.Proofs.Ytadakijlihibeaa
