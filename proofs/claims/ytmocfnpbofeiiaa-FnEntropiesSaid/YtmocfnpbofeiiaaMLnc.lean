/- The natural logarithm: both packages reckon lnW. -/
import Derived.Test.YtmocfnpbofeiiaaMExl
import Derived.Test.YtmocfnpbofeiiaaMFlt
namespace Go.Proofs.Ytmocfnpbofeiiaa
set_option linter.unusedSimpArgs false
set_option linter.unusedVariables false
open Go.RowKit

def fltOf : Value → Nat
  | .float _ b => b
  | _ => 0
theorem foi_ge : ∀ j : Nat, j < 13 → ∃ o, FloatKind.f64.format.order (floatOfInt .f64 (25 - 2 * (j : Int))) 4607182418800017408 = some o ∧ o ≠ .lt := by decide +kernel
theorem foi_end : FloatKind.f64.format.order (floatOfInt .f64 (25 - 2 * ((13 : Nat) : Int))) 4607182418800017408 = some .lt := by decide +kernel
theorem foi_two : ∀ j : Nat, j < 13 → (floatBits .sub .f64 (floatOfInt .f64 (25 - 2 * (j : Int))) 4611686018427387904).isSome = true ∧ fA .sub .f64 (floatOfInt .f64 (25 - 2 * (j : Int))) 4611686018427387904 = floatOfInt .f64 (25 - 2 * ((j + 1 : Nat) : Int)) := by decide +kernel
theorem ord_ge {x y : Nat} (hx : x < 9218868437227405312) (hy : y < 9218868437227405312) (h : y ≤ x) : ∃ o, FloatKind.f64.format.order x y = some o ∧ o ≠ .lt := by
  refine ⟨_, order_dd hx hy, ?_⟩
  intro hc
  have := Nat.compare_eq_lt.1 hc
  omega
theorem ord_lt {x y : Nat} (hx : x < 9218868437227405312) (hy : y < 9218868437227405312) (h : x < y) : FloatKind.f64.format.order x y = some .lt := by
  rw [show FloatKind.f64.format = Ieee.double from rfl, order_dd hx hy, Nat.compare_eq_lt.2 h]
theorem ord_gt {x y : Nat} (hx : x < 9218868437227405312) (hy : y < 9218868437227405312) (h : y < x) : FloatKind.f64.format.order x y = some .gt := by
  rw [show FloatKind.f64.format = Ieee.double from rfl, order_dd hx hy, Nat.compare_eq_gt.2 h]
theorem foi_add1 {k : Nat} (h : k < 150) : (floatBits .add .f64 (floatOfInt .f64 (k : Int)) 4607182418800017408).isSome = true ∧ fA .add .f64 (floatOfInt .f64 (k : Int)) 4607182418800017408 = floatOfInt .f64 ((k + 1 : Nat) : Int) := by
  obtain ⟨a, b⟩ := foi_add (n := (k : Int)) (by omega) (by omega)
  refine ⟨a, b.trans ?_⟩
  rw [Int.natCast_add]; rfl
theorem foi_sub1 {n k : Nat} (h : n < 150) (hk : k < 150) : (floatBits .sub .f64 (floatOfInt .f64 ((n : Int) - (k : Int))) 4607182418800017408).isSome = true ∧ fA .sub .f64 (floatOfInt .f64 ((n : Int) - (k : Int))) 4607182418800017408 = floatOfInt .f64 ((n : Int) - ((k + 1 : Nat) : Int)) := by
  obtain ⟨a, b⟩ := foi_sub (n := (n : Int) - (k : Int)) (by omega) (by omega)
  refine ⟨a, b.trans ?_⟩
  rw [show (n : Int) - (k : Int) - 1 = (n : Int) - ((k + 1 : Nat) : Int) by omega]
theorem foi_zero (k : Nat) : Value.float .f64 (floatOfInt .f64 (k : Int)) = .float .f64 (floatOfInt .f64 ((k : Int) - ((0 : Nat) : Int))) := by
  rw [show (k : Int) - ((0 : Nat) : Int) = k by omega]
/-- Which of the row's terms is due. -/
def lnI (x : Value) : Nat := ((List.range 14).find? fun (i : Nat) => floatOfInt .f64 (25 - 2 * (i : Int)) == fltOf x).getD 0
theorem lnI_all : ∀ i : Nat, i < 14 → lnI (.float .f64 (floatOfInt .f64 (25 - 2 * (i : Int)))) = i := by decide +kernel
theorem lnI_foi {i : Nat} (h : i < 14) : lnI (.float .f64 (floatOfInt .f64 (25 - 2 * (i : Int)))) = i := lnI_all i h
theorem ret_f64 {a b : Nat} (h : a = b) : Ending.returned (.float .f64 a) = .returned (.float .f64 b) := by rw [h]

set_option maxHeartbeats 2000000 in
theorem naturalLog_any (X : Nat) (w : World) (h1 : 3936146074321813504 ≤ X) (h2 : X ≤ 5183643171103440896) :
    Calls Try.prog 127 #[.float .f64 X] w fun e w' => e = .returned (.float .f64 (lnW X)) ∧ w = w' := by
  obtain ⟨n1b, n2b, hY⟩ := lnN_bd h1 h2
  have hYX : lnY X ≤ X := by unfold lnY; omega
  have hYlt := lnN1_ge (X := X)
  have hYe : lnY X = X - lnN1 X * 4503599627370496 := by unfold lnY; rfl
  have hZe : lnZ X = lnY X + lnN2 X * 4503599627370496 := by unfold lnZ; rfl
  obtain ⟨r, hr⟩ : ∃ r, r = lnW X := ⟨_, rfl⟩
  rw [← hr]
  have HR := Lib.hid hr
  clear hr
  have f1 := fun (k : Nat) => lnN1_lt (X := X) (k := k)
  have f2 := fun (k : Nat) => lnN2_lt (X := X) (k := k)
  have hz1 := lnN2_ge (X := X)
  have hz2 := lnZ_lt (X := X)
  obtain ⟨n1, hn1⟩ : ∃ n, n = lnN1 X := ⟨_, rfl⟩
  obtain ⟨n2, hn2⟩ : ∃ n, n = lnN2 X := ⟨_, rfl⟩
  obtain ⟨y, hy⟩ : ∃ n, n = lnY X := ⟨_, rfl⟩
  obtain ⟨z, hz⟩ : ∃ n, n = lnZ X := ⟨_, rfl⟩
  have HE : Hid (lnE X = (n1 : Int) - n2) := Lib.hid (by rw [hn1, hn2]; unfold lnE; rfl)
  have HZ := Lib.hid hz
  rw [← hz] at hz1 hz2 hZe
  rw [← hy] at hYX hYlt hYe hZe hY f2
  rw [← hn1] at n1b hYe f1
  rw [← hn2] at n2b hZe f2
  clear hn1 hn2 hy hz
  have F1 := Lib.hid f1
  have F2 := Lib.hid f2
  clear f1 f2
  have HY := Lib.hid hYe
  have HZE := Lib.hid hZe
  clear hYe hZe
  go_enter Try.func127, Try.ntmps127
  go_wp2
  go_loop [0, 3] (fun x e => ∃ k xw : Nat, k ≤ n1 ∧ Hid (xw = X - k * 4503599627370496) ∧ x = .float .f64 xw ∧ e = .float .f64 (floatOfInt .f64 (k : Int))) (fun x _ => fltOf x)
  case atStart => exact ⟨0, _, Nat.zero_le _, Lib.hid (by rw [Nat.zero_mul, Nat.sub_zero]), rfl, rfl⟩
  case round =>
    obtain ⟨k, xw, hk, hxw, rfl, rfl⟩ := hrel
    by_cases hlt : k < n1
    · have hx := F1.out k hlt
      rw [← hxw.out] at hx
      have hxX : xw ≤ X := by have := hxw.out; omega
      obtain ⟨o, ho, hol⟩ := ord_ge (x := xw) (y := 4609434218613702656) (by omega) (by omega) hx
      obtain ⟨d1, d2⟩ := half_word (x := xw) (by omega) (by omega)
      obtain ⟨a1, a2⟩ := foi_add1 (k := k) (by omega)
      have D2 := Lib.hid d2
      have A2 := Lib.hid a2
      have HX := Lib.hid hx
      clear d2 a2 hx
      cases o
      · exact absurd rfl hol
      all_goals
        clear hol
        go_wp2
        go_round
        case rel => exact ⟨k + 1, _, by omega, Lib.hid (by have := D2.out; have := hxw.out; omega), rfl, congrArg _ A2.out⟩
        case measure => have := D2.out; have := HX.out; simp only [fltOf]; omega
    · obtain rfl : k = n1 := by omega
      obtain rfl : xw = y := by rw [hxw.out, HY.out]
      have ho := ord_lt (x := xw) (y := 4609434218613702656) (by omega) (by omega) (by omega)
      go_wp2
      go_loop [0, 3] (fun x e => ∃ j zw : Nat, j ≤ n2 ∧ Hid (zw = xw + j * 4503599627370496) ∧ x = .float .f64 zw ∧ e = .float .f64 (floatOfInt .f64 ((k : Int) - (j : Int)))) (fun x _ => 9223372036854775808 - fltOf x)
      case atStart => exact ⟨0, _, Nat.zero_le _, Lib.hid (by rw [Nat.zero_mul, Nat.add_zero]), rfl, foi_zero k⟩
      case round =>
        obtain ⟨j, zw, hj, hzw, rfl, rfl⟩ := hrel
        by_cases hlt2 : j < n2
        · have hx := F2.out j hlt2
          rw [← hzw.out] at hx
          have hxX : xw ≤ zw := by have := hzw.out; omega
          have ho := ord_lt (x := zw) (y := 4604930618986332160) (by omega) (by omega) hx
          obtain ⟨d1, d2⟩ := dbl_word (x := zw) (by omega) (by omega)
          obtain ⟨a1, a2⟩ := foi_sub1 (n := k) (k := j) (by omega) (by omega)
          have D2 := Lib.hid d2
          have A2 := Lib.hid a2
          have HX := Lib.hid hx
          clear d2 a2 hx
          go_wp2
          go_round
          case rel => exact ⟨j + 1, _, by omega, Lib.hid (by have := D2.out; have := hzw.out; omega), rfl, congrArg _ A2.out⟩
          case measure => have := D2.out; have := HX.out; simp only [fltOf]; omega
        · obtain rfl : j = n2 := by omega
          obtain rfl : zw = z := by rw [hzw.out, HZE.out]
          obtain ⟨o, ho, hol⟩ := ord_ge (x := zw) (y := 4604930618986332160) (by omega) (by omega) (by omega)
          obtain ⟨s1, s2, s3, sb⟩ := ln_first (z := zw) (by omega) (by omega)
          obtain ⟨u1, ub⟩ := lnU_bd (z := zw) (by omega) (by omega)
          have hs : lnS zw = fA .quo .f64 (fA .sub .f64 zw 4607182418800017408) (fA .add .f64 zw 4607182418800017408) := rfl
          have SB := Lib.hid sb
          have UB := Lib.hid ub
          have HR2 : Hid (r = lnR zw ((k : Int) - j)) := Lib.hid (by rw [HR.out]; unfold lnW; rw [← HZ.out, HE.out])
          clear sb ub
          obtain ⟨s, hss⟩ : ∃ s, s = lnS zw := ⟨_, rfl⟩
          rw [← hss] at u1 hs UB SB
          obtain ⟨u, huu⟩ : ∃ u, u = fA .mul .f64 s s := ⟨_, rfl⟩
          rw [← huu] at UB
          have HS := Lib.hid hss
          have HU := Lib.hid huu
          have hs2 : fA .quo .f64 (fA .sub .f64 zw 4607182418800017408) (fA .add .f64 zw 4607182418800017408) = s := hs.symm
          have hu2 : fA .mul .f64 s s = u := huu.symm
          clear hs hss huu
          cases o
          · exact absurd rfl hol
          all_goals
            clear hol
            go_wp2
            go_loop [6, 7] (fun q x => ∃ i : Nat, i ≤ 13 ∧ q = .float .f64 (lnQ u i) ∧ Hid (x = .float .f64 (floatOfInt .f64 (25 - 2 * (i : Int))))) (fun q x => 13 - lnI x)
            case atStart => exact ⟨0, by omega, rfl, Lib.hid rfl⟩
            case round =>
              obtain ⟨i, hi, rfl, hx⟩ := hrel
              obtain ⟨kw, hkw⟩ : ∃ kw, kw = floatOfInt .f64 (25 - 2 * (i : Int)) := ⟨_, rfl⟩
              replace hx := hx.out
              rw [← hkw] at hx
              subst hx
              by_cases hi3 : i < 13
              · obtain ⟨o, ho, hol⟩ := foi_ge i hi3
                obtain ⟨t1, t2⟩ := foi_two i hi3
                obtain ⟨g1, g2, g3⟩ := lnQ_step UB.out hi3
                have hq : lnQ u (i + 1) = fA .add .f64 (fA .quo .f64 4607182418800017408 (floatOfInt .f64 (25 - 2 * (i : Int)))) (fA .mul .f64 u (lnQ u i)) := rfl
                rw [← hkw] at ho t1 t2 g2 g3 hq
                have T2 := Lib.hid t2
                have HQ := Lib.hid hq
                have HK := Lib.hid hkw
                clear t2 hq hkw
                generalize lnQ u i = qw at *
                cases o
                · exact absurd rfl hol
                all_goals
                  clear hol
                  go_wp2
                  go_round
                  case rel => exact ⟨i + 1, by omega, by rw [HQ.out], Lib.hid (congrArg _ T2.out)⟩
                  case measure => rw [T2.out, HK.out, lnI_foi (by omega), lnI_foi (by omega)]; omega
              · obtain rfl : i = 13 := by omega
                have ho := foi_end
                rw [← hkw] at ho
                obtain ⟨e1, e2, e3, e4, e5⟩ := ln_last SB.out (lnQ_bd UB.out 13 (by omega)) (e := (k : Int) - j) (by omega) (by omega)
                have hre : r = fA .add .f64 (fA .mul .f64 4611686018427387904 (fA .mul .f64 s (lnQ u 13))) (fA .mul .f64 (floatOfInt .f64 ((k : Int) - j)) 4604418534313441775) := by rw [HR2.out, HU.out, HS.out]; rfl
                have HRE := Lib.hid hre
                clear hre hkw e5
                generalize lnQ u 13 = qw at *
                generalize floatOfInt .f64 ((k : Int) - j) = ew at *
                go_wp2
                go_ret
                exact ⟨ret_f64 HRE.out.symm, rfl⟩

set_option maxHeartbeats 1000000 in
theorem isInf_pos (X : Nat) (w : World) (h1 : 3936146074321813504 ≤ X) (h2 : X ≤ 5183643171103440896) :
    Calls Try.prog 151 #[.float .f64 X, .int .i64 1] w fun e w' => e = .returned (.bool false) ∧ w = w' := by
  have hxm := ord_lt (x := X) (y := 9218868437227405311) (by omega) (by omega) (by omega)
  have hx0 := ord_gt (x := X) (y := 0) (by omega) (by omega) (by omega)
  go_enter Try.func151, Try.ntmps151
  go_wp2
  go_ret
  exact ⟨rfl, rfl⟩

set_option maxHeartbeats 2000000 in
theorem l01LogWide_any (X : Nat) (w : World) (h1 : 3936146074321813504 ≤ X) (h2 : X ≤ 5183643171103440896) :
    Calls Try.prog 148 #[.float .f64 X] w fun e w' => e = .returned (.float .f64 (lnW X)) ∧ w = w' := by
  obtain ⟨n1b, n2b, hY⟩ := lnN_bd h1 h2
  have hYX : lnY X ≤ X := by unfold lnY; omega
  have hYlt := lnN1_ge (X := X)
  have hYe : lnY X = X - lnN1 X * 4503599627370496 := by unfold lnY; rfl
  have hZe : lnZ X = lnY X + lnN2 X * 4503599627370496 := by unfold lnZ; rfl
  obtain ⟨r, hr⟩ : ∃ r, r = lnW X := ⟨_, rfl⟩
  rw [← hr]
  have HR := Lib.hid hr
  clear hr
  have f1 := fun (k : Nat) => lnN1_lt (X := X) (k := k)
  have f2 := fun (k : Nat) => lnN2_lt (X := X) (k := k)
  have hz1 := lnN2_ge (X := X)
  have hz2 := lnZ_lt (X := X)
  obtain ⟨n1, hn1⟩ : ∃ n, n = lnN1 X := ⟨_, rfl⟩
  obtain ⟨n2, hn2⟩ : ∃ n, n = lnN2 X := ⟨_, rfl⟩
  obtain ⟨y, hy⟩ : ∃ n, n = lnY X := ⟨_, rfl⟩
  obtain ⟨z, hz⟩ : ∃ n, n = lnZ X := ⟨_, rfl⟩
  have HE : Hid (lnE X = (n1 : Int) - n2) := Lib.hid (by rw [hn1, hn2]; unfold lnE; rfl)
  have HZ := Lib.hid hz
  rw [← hz] at hz1 hz2 hZe
  rw [← hy] at hYX hYlt hYe hZe hY f2
  rw [← hn1] at n1b hYe f1
  rw [← hn2] at n2b hZe f2
  clear hn1 hn2 hy hz
  have F1 := Lib.hid f1
  have F2 := Lib.hid f2
  clear f1 f2
  have HY := Lib.hid hYe
  have HZE := Lib.hid hZe
  clear hYe hZe
  have hxe : FloatKind.f64.format.order X X = some .eq := by
    rw [show FloatKind.f64.format = Ieee.double from rfl, order_dd (by omega) (by omega), Nat.compare_eq_eq.2 rfl]
  have hx0 := ord_gt (x := X) (y := 0) (by omega) (by omega) (by omega)
  go_enter Try.func148, Try.ntmps148
  go_wp2_with (go_at_call 151; refine (isInf_pos X _ h1 h2).mono ?_; rintro e w' ⟨rfl, rfl⟩)
  go_loop [0, 3] (fun x e => ∃ k xw : Nat, k ≤ n1 ∧ Hid (xw = X - k * 4503599627370496) ∧ x = .float .f64 xw ∧ e = .int .i64 (k : Int)) (fun x _ => fltOf x)
  case atStart => exact ⟨0, _, Nat.zero_le _, Lib.hid (by rw [Nat.zero_mul, Nat.sub_zero]), rfl, rfl⟩
  case round =>
    obtain ⟨k, xw, hk, hxw, rfl, rfl⟩ := hrel
    by_cases hlt : k < n1
    · have hx := F1.out k hlt
      rw [← hxw.out] at hx
      have hxX : xw ≤ X := by have := hxw.out; omega
      obtain ⟨o, ho, hol⟩ := ord_ge (x := xw) (y := 4609434218613702656) (by omega) (by omega) hx
      obtain ⟨d1, d2⟩ := half_word (x := xw) (by omega) (by omega)
      have D2 := Lib.hid d2
      have HX := Lib.hid hx
      clear d2 hx
      cases o
      · exact absurd rfl hol
      all_goals
        clear hol
        go_wp2
        go_round
        case rel => exact ⟨k + 1, _, by omega, Lib.hid (by have := D2.out; have := hxw.out; omega), rfl, by go_num⟩
        case measure => have := D2.out; have := HX.out; simp only [fltOf]; omega
    · obtain rfl : k = n1 := by omega
      obtain rfl : xw = y := by rw [hxw.out, HY.out]
      have ho := ord_lt (x := xw) (y := 4609434218613702656) (by omega) (by omega) (by omega)
      go_wp2
      go_loop [0, 3] (fun x e => ∃ j zw : Nat, j ≤ n2 ∧ Hid (zw = xw + j * 4503599627370496) ∧ x = .float .f64 zw ∧ e = .int .i64 ((k : Int) - (j : Int))) (fun x _ => 9223372036854775808 - fltOf x)
      case atStart => exact ⟨0, _, Nat.zero_le _, Lib.hid (by rw [Nat.zero_mul, Nat.add_zero]), rfl, by go_num⟩
      case round =>
        obtain ⟨j, zw, hj, hzw, rfl, rfl⟩ := hrel
        by_cases hlt2 : j < n2
        · have hx := F2.out j hlt2
          rw [← hzw.out] at hx
          have hxX : xw ≤ zw := by have := hzw.out; omega
          have ho := ord_lt (x := zw) (y := 4604930618986332160) (by omega) (by omega) hx
          obtain ⟨d1, d2⟩ := dbl_word (x := zw) (by omega) (by omega)
          have D2 := Lib.hid d2
          have HX := Lib.hid hx
          clear d2 hx
          go_wp2
          go_round
          case rel => exact ⟨j + 1, _, by omega, Lib.hid (by have := D2.out; have := hzw.out; omega), rfl, by go_num⟩
          case measure => have := D2.out; have := HX.out; simp only [fltOf]; omega
        · obtain rfl : j = n2 := by omega
          obtain rfl : zw = z := by rw [hzw.out, HZE.out]
          obtain ⟨o, ho, hol⟩ := ord_ge (x := zw) (y := 4604930618986332160) (by omega) (by omega) (by omega)
          obtain ⟨s1, s2, s3, sb⟩ := ln_first (z := zw) (by omega) (by omega)
          obtain ⟨u1, ub⟩ := lnU_bd (z := zw) (by omega) (by omega)
          have hs : lnS zw = fA .quo .f64 (fA .sub .f64 zw 4607182418800017408) (fA .add .f64 zw 4607182418800017408) := rfl
          have SB := Lib.hid sb
          have UB := Lib.hid ub
          have HR2 : Hid (r = lnR zw ((k : Int) - j)) := Lib.hid (by rw [HR.out]; unfold lnW; rw [← HZ.out, HE.out])
          clear sb ub
          obtain ⟨s, hss⟩ : ∃ s, s = lnS zw := ⟨_, rfl⟩
          rw [← hss] at u1 hs UB SB
          obtain ⟨u, huu⟩ : ∃ u, u = fA .mul .f64 s s := ⟨_, rfl⟩
          rw [← huu] at UB
          have HS := Lib.hid hss
          have HU := Lib.hid huu
          have hs2 : fA .quo .f64 (fA .sub .f64 zw 4607182418800017408) (fA .add .f64 zw 4607182418800017408) = s := hs.symm
          have hu2 : fA .mul .f64 s s = u := huu.symm
          clear hs hss huu
          cases o
          · exact absurd rfl hol
          all_goals
            clear hol
            go_wp2
            go_loop [6, 7] (fun q x => ∃ i : Nat, i ≤ 13 ∧ q = .float .f64 (lnQ u i) ∧ x = .int .i64 (25 - 2 * (i : Int))) (fun q x => (intOf x + 1).toNat)
            case atStart => exact ⟨0, by omega, rfl, rfl⟩
            case round =>
              obtain ⟨i, hi, rfl, rfl⟩ := hrel
              obtain ⟨kw, hkw⟩ : ∃ kw, kw = floatOfInt .f64 (25 - 2 * (i : Int)) := ⟨_, rfl⟩
              by_cases hi3 : i < 13
              · obtain ⟨o, ho, hol⟩ := foi_ge i hi3
                obtain ⟨t1, t2⟩ := foi_two i hi3
                obtain ⟨g1, g2, g3⟩ := lnQ_step UB.out hi3
                have hq : lnQ u (i + 1) = fA .add .f64 (fA .quo .f64 4607182418800017408 (floatOfInt .f64 (25 - 2 * (i : Int)))) (fA .mul .f64 u (lnQ u i)) := rfl
                rw [← hkw] at g2 g3 hq
                have HQ := Lib.hid hq
                have HK := Lib.hid hkw
                clear hq
                generalize lnQ u i = qw at *
                replace hkw := hkw.symm
                go_wp2
                go_round
                case rel => exact ⟨i + 1, by omega, by rw [HQ.out], by go_num⟩
                case measure => simp only [intOf]; omega
              · obtain rfl : i = 13 := by omega
                obtain ⟨e1, e2, e3, e4, e5⟩ := ln_last SB.out (lnQ_bd UB.out 13 (by omega)) (e := (k : Int) - j) (by omega) (by omega)
                have hre : r = fA .add .f64 (fA .mul .f64 4611686018427387904 (fA .mul .f64 s (lnQ u 13))) (fA .mul .f64 (floatOfInt .f64 ((k : Int) - j)) 4604418534313441775) := by rw [HR2.out, HU.out, HS.out]; rfl
                have HRE := Lib.hid hre
                clear hre hkw e5
                generalize lnQ u 13 = qw at *
                go_wp2
                go_ret
                exact ⟨ret_f64 HRE.out.symm, rfl⟩

end Go.Proofs.Ytmocfnpbofeiiaa
