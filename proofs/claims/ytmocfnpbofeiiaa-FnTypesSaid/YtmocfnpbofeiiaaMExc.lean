/- The exponential function's contracts, and those of the logarithm at zero. -/
import Derived.Test.YtmocfnpbofeiiaaMExm
import Derived.Laws.Externs
namespace Go.Proofs.Ytmocfnpbofeiiaa
set_option linter.unusedSimpArgs false
set_option linter.unusedVariables false
open Go.RowKit

theorem ord_fge {k : FloatKind} {x y : Nat} (hx : Fnt k.format x) (hy : Fnt k.format y) (h : sv k.format y ≤ sv k.format x) : ∃ o, k.format.order x y = some o ∧ o ≠ .lt := by
  obtain ⟨_, b, c⟩ := order_fin hx hy
  by_cases h1 : sv k.format x = sv k.format y
  · exact ⟨.eq, b.2 h1, by decide⟩
  · exact ⟨.gt, c.2 (by grind), by decide⟩
theorem ord_flt {k : FloatKind} {x y : Nat} (hx : Fnt k.format x) (hy : Fnt k.format y) (h : sv k.format x < sv k.format y) : k.format.order x y = some .lt := (order_fin hx hy).1.2 h
theorem ord_feq {k : FloatKind} {x : Nat} (hx : Fnt k.format x) : k.format.order x x = some .eq := (order_fin hx hx).2.1.2 rfl
theorem f12_ge : ∀ j : Nat, j < 12 → ∃ o, FloatKind.f64.format.order (floatOfInt .f64 (12 - (j : Int))) 4607182418800017408 = some o ∧ o ≠ .lt := by decide +kernel
theorem f12_end : FloatKind.f64.format.order (floatOfInt .f64 (12 - ((12 : Nat) : Int))) 4607182418800017408 = some .lt := by decide +kernel
theorem f12_sub : ∀ j : Nat, j < 12 → (floatBits .sub .f64 (floatOfInt .f64 (12 - (j : Int))) 4607182418800017408).isSome = true ∧ fA .sub .f64 (floatOfInt .f64 (12 - (j : Int))) 4607182418800017408 = floatOfInt .f64 (12 - ((j + 1 : Nat) : Int)) := by decide +kernel
def exI (x : Value) : Nat := ((List.range 13).find? fun (i : Nat) => floatOfInt .f64 (12 - (i : Int)) == fltOf x).getD 0
theorem exI_all : ∀ i : Nat, i < 13 → exI (.float .f64 (floatOfInt .f64 (12 - (i : Int)))) = i := by decide +kernel
theorem fnt200 : Fnt Ieee.single 1128792064 ∧ Fnt Ieee.single 3276275712 ∧ Fnt Ieee.double 4641240890982006784 ∧ Fnt Ieee.double 13864612927836782592 := by
  refine ⟨?_, ?_, ?_, ?_⟩ <;> (unfold Fnt; decide)

set_option maxHeartbeats 2000000 in
theorem implExp_any (z : Nat) (w : World) (hz : Fnt Ieee.single z) (h4 : sv Ieee.single z ≤ 4) :
    Calls Try.prog 102 #[.float .f32 z] w fun e w' => e = .returned (.float .f32 (exF z)) ∧ w = w' := by
  obtain ⟨p1, p2, -, -⟩ := fnt200
  have o1 : FloatKind.f32.format.order z 1128792064 = some .lt := ord_flt (k := .f32) hz p1 (by show sv Ieee.single z < sv Ieee.single _; rw [ss_200]; grind)
  by_cases hlt : sv Ieee.single z < -200
  · have o2 : FloatKind.f32.format.order z 3276275712 = some .lt := ord_flt (k := .f32) hz p2 (by show sv Ieee.single z < sv Ieee.single _; rw [ss_m200]; exact hlt)
    have hr : exF z = 0 := by unfold exF; rw [if_pos hlt]
    rw [hr]
    clear hr hz h4 p1 p2 hlt
    go_enter Try.func102, Try.ntmps102
    go_wp2
    go_ret
    exact ⟨rfl, rfl⟩
  · obtain ⟨o, o2, hol⟩ := ord_fge (k := .f32) hz p2 (by show sv Ieee.single _ ≤ sv Ieee.single z; rw [ss_m200]; grind)
    have hr : exF z = exC z := by unfold exF; rw [if_neg hlt]
    obtain ⟨hb, d1, -, -⟩ := exC_ok hz (by grind) h4
    obtain ⟨c1, -, -⟩ := up_sv hz
    obtain ⟨t1, tb⟩ := ex_t hb
    rw [hr]
    clear hr hz h4 p1 p2 hlt hb
    obtain ⟨r, hr⟩ : ∃ r, r = exC z := ⟨_, rfl⟩
    rw [← hr] at d1
    rw [← hr]
    clear hr
    obtain ⟨y, hy⟩ : ∃ y, y = up64 z := ⟨_, rfl⟩
    rw [← hy] at c1 t1 tb d1
    clear hy
    have htd : fA .quo .f64 y 4643211215818981376 = exT y := rfl
    have hwd : exW y = exS (exP (exT y) 12) 8 := rfl
    rw [hwd] at d1
    clear hwd
    generalize exT y = t at *
    have TB := Lib.hid tb
    have PB := exP_bt tb 12 (by omega)
    have SQ := Lib.hid (exS_all PB).1
    clear tb PB
    have e1 := fun W : World => run_convert_float_float (P := Try.prog) W 32 29 .f32 .f64 z y (by rw [Try.underlying32]; rfl) Try.underlying29 c1
    have E2 : Hid (∀ W : World, _) := Lib.hid (fun W : World => run_convert_float_float (P := Try.prog) W 29 32 .f64 .f32 (exS (exP t 12) 8) r (by rw [Try.underlying29]; rfl) Try.underlying32 d1)
    clear c1 d1
    cases o
    · exact absurd rfl hol
    all_goals
      clear hol
      go_enter Try.func102, Try.ntmps102
      go_wp2
      go_loop [4, 5] (fun q x => ∃ i : Nat, i ≤ 12 ∧ q = .float .f64 (exP t i) ∧ Hid (x = .float .f64 (floatOfInt .f64 (12 - (i : Int))))) (fun q x => 12 - exI x)
      case atStart => exact ⟨0, by omega, rfl, Lib.hid (congrArg (Value.float .f64) (by decide +kernel))⟩
      case round =>
        obtain ⟨i, hi, rfl, hx⟩ := hrel
        obtain ⟨kw, hkw⟩ : ∃ kw, kw = floatOfInt .f64 (12 - (i : Int)) := ⟨_, rfl⟩
        replace hx := hx.out
        rw [← hkw] at hx
        subst hx
        by_cases hi3 : i < 12
        · obtain ⟨o, ho, hol⟩ := f12_ge i hi3
          obtain ⟨k1, k2⟩ := f12_sub i hi3
          obtain ⟨g1, g2, g3, -⟩ := ex_step TB.out (exP_bt TB.out i (by omega)) hi3
          have hq : exP t (i + 1) = fA .add .f64 4607182418800017408 (fA .quo .f64 (fA .mul .f64 t (exP t i)) (floatOfInt .f64 (12 - (i : Int)))) := rfl
          rw [← hkw] at ho k1 k2 g2 g3 hq
          have K2 := Lib.hid k2
          have HQ := Lib.hid hq
          have HK := Lib.hid hkw
          clear k2 hq hkw
          generalize exP t i = pw at *
          cases o
          · exact absurd rfl hol
          all_goals
            clear hol
            go_wp2
            go_round
            case rel => exact ⟨i + 1, by omega, by rw [HQ.out], Lib.hid (congrArg _ K2.out)⟩
            case measure => rw [K2.out, HK.out, exI_all _ (by omega), exI_all _ (by omega)]; omega
        · obtain rfl : i = 12 := by omega
          have ho := f12_end
          rw [← hkw] at ho
          clear hkw
          generalize exP t 12 = pw at *
          go_wp2
          go_loop [4, 27] (fun q x => ∃ j : Nat, j ≤ 8 ∧ q = .float .f64 (exS pw j) ∧ x = .int .i64 (j : Int)) (fun q x => 8 - (intOf x).toNat)
          case atStart => exact ⟨0, by omega, rfl, rfl⟩
          case round =>
            obtain ⟨j, hj, rfl, rfl⟩ := hrel
            by_cases hj8 : j < 8
            · have hsq := SQ.out j hj8
              have hq : exS pw (j + 1) = fA .mul .f64 (exS pw j) (exS pw j) := rfl
              have HQ := Lib.hid hq
              clear hq
              generalize exS pw j = sw at *
              go_wp2
              go_round
              case rel => exact ⟨j + 1, by omega, by rw [HQ.out], by go_num⟩
              case measure => simp [intOf]; omega
            · obtain rfl : j = 8 := by omega
              have e2 := E2.out
              generalize exS pw 8 = sw at *
              go_wp2
              go_ret
              exact ⟨rfl, rfl⟩

set_option maxHeartbeats 1000000 in
theorem mathInf_neg (w : World) : Calls Try.prog 125 #[.int .i64 (-1)] w fun e w' => e = .returned (.float .f64 18442240474082181120) ∧ w = w' := by
  have hx : ∀ W : World, (callFunc 144 #[.int .u64 18442240474082181120]).run Try.prog W = .ok (.value (.float .f64 18442240474082181120)) W := fun W => by
    rw [run_callFunc_extern (e := Extern.MathFloatBits.float64frombits) Try.func144 (by kernel_rfl) (by kernel_rfl) (by kernel_rfl) (by kernel_rfl)]
    rfl
  go_enter Try.func125, Try.ntmps125
  go_wp2
  go_ret
  exact ⟨rfl, rfl⟩

end Go.Proofs.Ytmocfnpbofeiiaa
