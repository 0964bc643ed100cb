/- How far two rows are apart: the contracts. -/
import Derived.Test.YtmocfnpbofeiiaaMAbo
namespace Go.Proofs.Ytmocfnpbofeiiaa
set_option linter.unusedSimpArgs false
set_option linter.unusedVariables false
open Go.RowKit

def nInf : Nat := 18442240474082181120
theorem nInf_down : floatToFloatBits .f64 nInf .f32 = some 4286578688 := by decide +kernel
theorem nInf_ln2 : (floatBits .quo .f32 4286578688 1060205080).isSome = true ∧ fA .quo .f32 4286578688 1060205080 = 4286578688 := by decide +kernel
def Zr (x : Nat) : Prop := x = 0 ∨ x = 2147483648
theorem Zr.eq {x : Nat} (h : Zr x) : FloatKind.f32.format.order x 0 = some .eq := by rcases h with rfl | rfl <;> decide
theorem Zr.up {x : Nat} (h : Zr x) : ∃ y, floatToFloatBits .f32 x .f64 = some y ∧ FloatKind.f64.format.order y y = some .eq ∧ FloatKind.f64.format.order y 0 = some .eq := by
  rcases h with rfl | rfl
  · exact ⟨0, by decide +kernel, by decide +kernel, by decide +kernel⟩
  · exact ⟨9223372036854775808, by decide +kernel, by decide +kernel, by decide +kernel⟩
theorem Zr.faB {x : Nat} (h : Zr x) : faB x = 4286578688 := by rcases h with rfl | rfl <;> rfl
theorem mathInf_n (w : World) : Calls Try.prog 125 #[.int .i64 (-1)] w fun e w' => e = .returned (.float .f64 nInf) ∧ w = w' := mathInf_neg w

set_option maxHeartbeats 400000 in
theorem implLogNumber_zero (x : Nat) (w : World) (h : Zr x) : Calls Try.prog 103 #[.float .f32 x] w fun e w' => e = .returned (.float .f32 4286578688) ∧ w = w' := by
  have o1 := h.eq
  have e2 := fun W : World => run_convert_float_float (P := Try.prog) W 29 32 .f64 .f32 nInf 4286578688 (by rw [Try.underlying29]; rfl) Try.underlying32 nInf_down
  clear h
  go_enter Try.func103, Try.ntmps103
  go_wp2_with (go_at_call 125; refine (mathInf_n _).mono ?_; rintro e w' ⟨rfl, rfl⟩)
  go_ret
  exact ⟨rfl, rfl⟩

set_option maxHeartbeats 400000 in
theorem l01LogWide_zero (y : Nat) (w : World) (h1 : FloatKind.f64.format.order y y = some .eq) (h2 : FloatKind.f64.format.order y 0 = some .eq) : Calls Try.prog 148 #[.float .f64 y] w fun e w' => e = .returned (.float .f64 nInf) ∧ w = w' := by
  go_enter Try.func148, Try.ntmps148
  go_wp2_with (go_at_call 125; refine (mathInf_n _).mono ?_; rintro e w' ⟨rfl, rfl⟩)
  go_ret
  exact ⟨rfl, rfl⟩

set_option maxHeartbeats 400000 in
theorem l01Log_zero (x : Nat) (w : World) (h : Zr x) : Calls Try.prog 140 #[.float .f32 x] w fun e w' => e = .returned (.float .f32 4286578688) ∧ w = w' := by
  obtain ⟨y, c1, h1, h2⟩ := h.up
  have e1 := fun W : World => run_convert_float_float (P := Try.prog) W 32 29 .f32 .f64 x y (by rw [Try.underlying32]; rfl) Try.underlying29 c1
  have H1 := Lib.hid h1
  have H2 := Lib.hid h2
  clear c1 h h1 h2
  go_enter Try.func140, Try.ntmps140
  go_wp2_with (first
    | (go_at_call 147; refine (l01Narrow_any _ _ _ nInf_down).mono ?_; rintro e w' ⟨rfl, rfl⟩)
    | (go_at_call 148; refine (l01LogWide_zero _ _ H1.out H2.out).mono ?_; rintro e w' ⟨rfl, rfl⟩))
  go_ret
  exact ⟨rfl, rfl⟩

set_option maxHeartbeats 1000000 in
theorem bitsOf_nn (x : Nat) (w : World) (h : Zr x ∨ (0 < x ∧ x < 2139095040)) :
    Calls Try.prog 73 #[.float .f32 x] w fun e w' => e = .returned (.float .f32 (faB x)) ∧ Qu w w' := by
  rcases h with h | ⟨h0, hx⟩
  · rw [h.faB]
    have H := Lib.hid h
    obtain ⟨q1, q2⟩ := nInf_ln2
    clear h
    go_enter Try.func73, Try.ntmps73
    go_wp2_with (go_at_call 103; refine (implLogNumber_zero _ _ H.out).mono ?_; rintro e w' ⟨rfl, rfl⟩)
    go_ret
    exact ⟨rfl, Qu.refl _⟩
  · have : faB x = enB x := by unfold faB; rw [if_neg (by omega)]
    rw [this]
    exact bitsOf_any x w h0 hx

set_option maxHeartbeats 1000000 in
theorem l02Bits_nn (x : Nat) (w : World) (h : Zr x ∨ (0 < x ∧ x < 2139095040)) :
    Calls Try.prog 121 #[.float .f32 x] w fun e w' => e = .returned (.float .f32 (faB x)) ∧ Qu w w' := by
  rcases h with h | ⟨h0, hx⟩
  · rw [h.faB]
    have H := Lib.hid h
    obtain ⟨q1, q2⟩ := nInf_ln2
    clear h
    go_enter Try.func121, Try.ntmps121
    go_wp2_with (go_at_call 140; refine (l01Log_zero _ _ H.out).mono ?_; rintro e w' ⟨rfl, rfl⟩)
    go_ret
    exact ⟨rfl, Qu.refl _⟩
  · have : faB x = enB x := by unfold faB; rw [if_neg (by omega)]
    rw [this]
    exact l02Bits_any x w h0 hx
theorem faS_nn {s u : Nat} {xs ys : List Nat} (hs : Sh s) (hu : Sh u) (hx : Abv xs) (hy : Abv ys) (hl : ys.length = xs.length) (h32 : xs.length ≤ 32) : Zr (faS s u xs ys xs.length) ∨ (0 < faS s u xs ys xs.length ∧ faS s u xs ys xs.length < 2139095040) := by
  obtain ⟨i1, i2⟩ := faS_ok hs hu hx hy hl _ (Nat.le_refl _) h32
  have hw : faS s u xs ys xs.length < 4294967296 := by
    cases hn : xs.length with
    | zero => exact (by decide : (0 : Nat) < 4294967296)
    | succ k => exact fA_lt32 (faS_some hs hu hx hy hl (k := k) (by omega) h32)
  exact (nn_word hw (i1.fnt (by show 64 + xs.length ≤ 127; omega)) i2).imp (fun h => h.2) id

set_option maxHeartbeats 4000000 in
theorem farBits_any (v u : Value) (xs ys : List Nat) (s : Nat) (w : World) (hv : SlR w v (xs.map (Value.float .f32))) (hu : SlR w u (ys.map (Value.float .f32))) (hs : Sh s) (hx : Abv xs) (hy : Abv ys) (hl : ys.length = xs.length) (h32 : xs.length ≤ 32) :
    Calls Try.prog 74 #[v, u, .float .f32 s] w fun e w' => e = .returned (.float .f32 (farF xs ys s)) ∧ Qu w w' := by
  obtain ⟨a, n, c, rfl, hnl, hnc, hcm, hcell⟩ := SlR.opened 0 hv
  obtain ⟨a', n', c', rfl, hnl', hnc', hcm', hcell'⟩ := SlR.opened 0 hu
  unfold maxLen at hcm hcm'
  have hn9 : n ≤ 9223372036854775807 := by omega
  obtain rfl : n = n' := by omega
  obtain ⟨u1, hU⟩ := faU_ok hs
  have hud : fA .sub .f32 1065353216 s = faU s := rfl
  have hfd : Hid (farF xs ys s = fA .sub .f32 0 (faB (faS s (faU s) xs ys xs.length))) := rfl
  have hfs := far_some hs hx hy hl h32
  have HNN := Lib.hid (faS_nn hs hU hx hy hl h32)
  obtain ⟨r, hr⟩ : ∃ r, r = farF xs ys s := ⟨_, rfl⟩
  rw [← hr] at hfd ⊢
  clear hr
  generalize faU s = t at *
  have HSS : Hid (∀ k, k < xs.length → (floatBits .add .f32 (faS s t xs ys k) (faT s t (xs[k]?.getD 0) (ys[k]?.getD 0))).isSome = true) := by
    show ∀ k, _
    intro k hk
    exact faS_some hs hU hx hy hl hk h32
  have HT := Lib.hid hs
  have HU := Lib.hid hU
  have HX := Lib.hid hx
  have HY := Lib.hid hy
  have HN := Lib.hid hnl
  have HM := Lib.hid hnl'
  have HC := Lib.hid hcell
  have HC' := Lib.hid hcell'
  have HFS := Lib.hid hfs
  clear hnl hnl' hcell hcell' hcm hcm' hnc hnc' hv hu hs hU hx hy hl h32 hfs
  go_enter Try.func74, Try.ntmps74
  go_wp2
  go_loopw [7, 12] (fun q i wr => ∃ k : Nat, k ≤ n ∧ i = .int .i64 (k : Int) ∧ q = .float .f32 (faS s t xs ys k) ∧ Qu w wr) (fun _ i _ => n - (intOf i).toNat)
  case atStart => exact ⟨0, Nat.zero_le _, rfl, rfl, Qu.refl _⟩
  case round =>
    obtain ⟨k, hk, rfl, rfl, m, hm⟩ := hrel
    have HQ := Lib.hid hm
    by_cases hlt : k < n
    · obtain ⟨b, off, rfl, hc, hbl⟩ := HC.out k hlt
      obtain ⟨b', off', rfl, hc', hbl'⟩ := HC'.out k hlt
      rw [List.getD_eq_getElem?_getD] at hc hc'
      have g1 := ((Qu.keep (w := w) (w' := wr) ⟨m, hm⟩).cell (p := ⟨b, off + k, none⟩) hbl).trans hc
      have g2 := ((Qu.keep (w := w) (w' := wr) ⟨m, hm⟩).cell (p := ⟨b', off' + k, none⟩) hbl').trans hc'
      clear hm hc hc'
      have hkl : k < xs.length := by rw [HN.out]; exact hlt
      have hkl' : k < ys.length := by rw [HM.out]; exact hlt
      obtain ⟨x1, x2⟩ := HX.out.at hkl
      obtain ⟨y1, y2⟩ := HY.out.at hkl'
      obtain ⟨m1, m2, m3⟩ := faZ_ok HT.out x1 x2
      obtain ⟨m4, m5, m6⟩ := faZ_ok HU.out y1 y2
      obtain ⟨m7, -, -⟩ := faT_ok HT.out HU.out x1 x2 y1 y2
      have m8 := HSS.out k hkl
      have HS : Hid (faS s t xs ys (k + 1) = fA .add .f32 (faS s t xs ys k) (faT s t (xs[k]?.getD 0) (ys[k]?.getD 0))) := rfl
      clear hkl hkl'
      generalize xs[k]?.getD 0 = z at *
      generalize ys[k]?.getD 0 = y at *
      generalize faS s t xs ys k = S at *
      have d1 : fA .mul .f32 s (lnF z) = faZ s z := rfl
      have d2 : fA .mul .f32 t (lnF y) = faZ t y := rfl
      have d3 : fA .mul .f32 (exF (faZ s z)) (exF (faZ t y)) = faT s t z y := rfl
      have hE1 : Hid (∀ W : World, Calls Try.prog 102 #[.float .f32 (faZ s z)] W fun e w' => e = .returned (.float .f32 (exF (faZ s z))) ∧ ∃ mq, w' = W.drewN mq) := by
        show ∀ W : World, _
        exact fun W => (implExp_any _ W m2 m3).mono fun e w' ⟨q1, q2⟩ => ⟨q1, 0, q2.symm⟩
      have hE2 : Hid (∀ W : World, Calls Try.prog 102 #[.float .f32 (faZ t y)] W fun e w' => e = .returned (.float .f32 (exF (faZ t y))) ∧ ∃ mq, w' = W.drewN mq) := by
        show ∀ W : World, _
        exact fun W => (implExp_any _ W m5 m6).mono fun e w' ⟨q1, q2⟩ => ⟨q1, 0, q2.symm⟩
      have hL1 : Hid (∀ W : World, Calls Try.prog 103 #[.float .f32 z] W fun e w' => e = .returned (.float .f32 (lnF z)) ∧ ∃ mq, w' = W.drewN mq) := by
        show ∀ W : World, _
        exact fun W => (implLogNumber_any z W x1 (by omega)).mono fun e w' ⟨q1, q2⟩ => ⟨q1, by first | exact q2 | exact ⟨0, q2.symm⟩⟩
      have hL2 : Hid (∀ W : World, Calls Try.prog 103 #[.float .f32 y] W fun e w' => e = .returned (.float .f32 (lnF y)) ∧ ∃ mq, w' = W.drewN mq) := by
        show ∀ W : World, _
        exact fun W => (implLogNumber_any y W y1 (by omega)).mono fun e w' ⟨q1, q2⟩ => ⟨q1, by first | exact q2 | exact ⟨0, q2.symm⟩⟩
      clear m2 m3 m5 m6 x1 x2 y1 y2
      generalize faT s t z y = T at *
      generalize faZ s z = za at *
      generalize faZ t y = zb at *
      generalize exF za = ea at *
      generalize exF zb = eb at *
      generalize lnF z = la at *
      generalize lnF y = lb at *
      go_wp2_with fail
      go_quiet (first
        | (go_at_call 103; first | (with_reducible exact Calls.quiet_of (hL1.out _)) | (with_reducible exact Calls.quiet_of (hL2.out _)))
        | (go_at_call 102; first | (with_reducible exact Calls.quiet_of (hE1.out _)) | (with_reducible exact Calls.quiet_of (hE2.out _))))
      go_wp2
      go_roundw
      case rel => exact ⟨k + 1, by omega, by go_num, by rw [HS.out], _, by rw [HQ.out, World.drewN_drewN]⟩
      case measure => simp [intOf]; omega
    · obtain rfl : n = k := by omega
      clear hm
      have hfs := HFS.out
      have hnn := HNN.out
      have hfe := hfd.out
      clear HFS HNN hfd
      rw [HN.out] at hfs hnn hfe
      generalize faS s t xs ys n = S at *
      have HB : Hid (∀ W : World, Calls Try.prog 73 #[.float .f32 S] W fun e w' => e = .returned (.float .f32 (faB S)) ∧ Qu W w') := by
        show ∀ W : World, _
        exact fun W => bitsOf_nn S W hnn
      have HE := Lib.hid hfe
      clear hnn hfe
      generalize faB S = B at *
      go_wp2_with (go_at_call 73; refine (HB.out _).mono ?_; rintro e w3 ⟨rfl, m3, rfl⟩)
      go_ret
      exact ⟨ret_float HE.out.symm, _, by rw [HQ.out, World.drewN_drewN]⟩

end Go.Proofs.Ytmocfnpbofeiiaa
