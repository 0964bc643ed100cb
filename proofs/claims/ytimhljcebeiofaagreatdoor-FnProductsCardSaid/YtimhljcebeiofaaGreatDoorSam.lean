/- When two numbers, or two lists of them, are the same. -/
import Derived.Test.YtimhljcebeiofaaGreatDoorFlt
import Derived.Laws.StandIn
namespace Go.Proofs.YtimhljcebeiofaaGreatDoor
set_option linter.unusedSimpArgs false
set_option linter.unusedVariables false
open Go.RowKit

/-- The bits of a number; of a not-a-number always the same ones. -/
def cn (x : Nat) : Nat := if nanB x then 2143289344 else x
def sameB (xs ys : List Nat) : Bool := decide (xs.map cn = ys.map cn)

theorem int_beq (a b : Nat) : ((a : Int) == (b : Int)) = decide (a = b) := by
  by_cases h : a = b
  · subst h; simp
  · rw [decide_eq_false h]; simp; omega
theorem neq_self_f (x : Nat) : (FloatKind.f32.format.order x x != some .eq) = nanB x := by
  have h := order_self x
  have e : (Ieee.single.order x x != some .eq) = !(Ieee.single.order x x == some .eq) := rfl
  show (Ieee.single.order x x != some .eq) = _
  rw [e, h, Bool.not_not]


theorem run_f32bits (x : Nat) (w : World) : (callFunc 45 #[.float .f32 x]).run Tryz.prog w = .ok (.value (.int .u32 x)) w := by
  rw [run_callFunc_extern (e := Extern.MathFloatBits.float32bits) Tryz.func45 (by kernel_rfl) (by kernel_rfl) (by kernel_rfl) (by kernel_rfl)]
  rfl

theorem run_f64bits (x : Nat) (w : World) : (callFunc 75 #[.float .f64 x]).run Tryz.prog w = .ok (.value (.int .u64 x)) w := by
  rw [run_callFunc_extern (e := Extern.MathFloatBits.float64bits) Tryz.func75 (by kernel_rfl) (by kernel_rfl) (by kernel_rfl) (by kernel_rfl)]
  rfl

set_option maxHeartbeats 400000 in
theorem l01Bits_any (x : Nat) (w : World) (hx : x < 4294967296) : Calls Tryz.prog 53 #[.float .f32 x] w fun e w' => e = .returned (.int .i64 (cn x)) ∧ w = w' := by
  have h := neq_self_f x
  have hrun := run_f32bits x
  cases hn : nanB x
  · have HC : Hid (cn x = x) := by show cn x = x; unfold cn; rw [hn]; rfl
    rw [hn] at h
    clear hn
    go_enter Tryz.func53, Tryz.ntmps53
    go_wp2
    go_ret
    refine ⟨ret_int ?_, rfl⟩
    first | rfl | (rw [HC.out]) | (rw [HC.out]; exact IntWalk.i64_in _ (by omega))
  · have HC : Hid (cn x = 2143289344) := by show cn x = _; unfold cn; rw [hn]; rfl
    rw [hn] at h
    clear hn
    go_enter Tryz.func53, Tryz.ntmps53
    go_wp2
    go_ret
    exact ⟨ret_int (by rw [HC.out]; rfl), rfl⟩

set_option maxHeartbeats 400000 in
theorem l01Same_any (x y : Nat) (w : World) (hx : x < 4294967296) (hy : y < 4294967296) : Calls Tryz.prog 32 #[.float .f32 x, .float .f32 y] w fun e w' => e = .returned (.bool (decide (cn x = cn y))) ∧ w = w' := by
  by_cases h : cn x = cn y
  all_goals
    have HC := Lib.hid h
    have ht := int_beq (cn x) (cn y)
    generalize decide (cn x = cn y) = t at *
    clear h
    go_enter Tryz.func32, Tryz.ntmps32
    go_wp2_with (go_at_call 53; refine (l01Bits_any _ _ (by assumption)).mono ?_; rintro e w' ⟨rfl, rfl⟩)
    go_ret
    exact ⟨rfl, rfl⟩

set_option maxHeartbeats 400000 in
theorem signbit_any (r : Nat) (w : World) (hr : r < 2 ^ 64) : Calls Tryz.prog 64 #[.float .f64 r] w fun e w' => e = .returned (.bool (sg Ieee.double r)) ∧ w = w' := by
  have hrun := run_f64bits r
  obtain ⟨z, hz⟩ : ∃ z, IntKind.i64.wrap (r : Int) = z := ⟨_, rfl⟩
  have hz' : wrap64 (r : Int) = z := by unfold wrap64; rw [← hz, IntKind.wrap_i64]
  have hl : decide (z < 0) = sg Ieee.double r := by
    rw [← hz]
    unfold sg
    rw [d_sw]
    by_cases h : r < 9223372036854775808
    · rw [IntWalk.i64_in _ (by omega), Nat.div_eq_of_lt h]; simp
    · have : IntKind.i64.wrap (r : Int) = (r : Int) - 18446744073709551616 := by
        unfold IntKind.wrap; simp [IntKind.signed, IntKind.bits]; omega
      rw [this, show r / 9223372036854775808 = 1 by omega]
      simp; omega
  generalize sg Ieee.double r = t at *
  clear hr
  go_enter Tryz.func64, Tryz.ntmps64
  go_wp2
  go_ret
  exact ⟨rfl, rfl⟩

/-- Words that are numbers: the same number and the same sign. -/
theorem same_word {x y : Nat} (hx : x < 4294967296) (hy : y < 4294967296) (nx : nanB x = false) (ny : nanB y = false) :
    ((Ieee.single.order x y == some .eq) && (sg Ieee.single x == sg Ieee.single y)) = decide (x = y) := by
  by_cases h : x = y
  · subst h
    rw [decide_eq_true rfl, order_self, nx]; simp
  · rw [decide_eq_false h]
    by_cases hs : sg Ieee.single x = sg Ieee.single y
    · have hne : ¬ Ieee.single.order x y = some .eq := by
        intro ho
        have n1 := of_decide_eq_false nx
        have n2 := of_decide_eq_false ny
        have hr : rg Ieee.single x = rg Ieee.single y := by
          by_cases fx : Fnt Ieee.single x
          · by_cases fy : Fnt Ieee.single y
            · have e := (order_fin fx fy).2.1.1 ho
              unfold sv at e
              rw [hs] at e
              refine rv_inj Ieee.single ?_
              split at e <;> grind
            · exfalso
              unfold Fnt at fy
              rw [rgs, s_inf] at fy
              have r2 := read_inf Ieee.single s_he y (by rw [rgs, s_inf]; omega)
              obtain ⟨m, p, r1, _⟩ := read_fin Ieee.single x fx
              unfold Ieee.Format.order at ho
              rw [r1, r2] at ho
              simp only [Ieee.Datum.order] at ho
              split at ho <;> simp at ho
          · unfold Fnt at fx
            rw [rgs, s_inf] at fx
            have r1 := read_inf Ieee.single s_he x (by rw [rgs, s_inf]; omega)
            by_cases fy : Fnt Ieee.single y
            · exfalso
              obtain ⟨m, p, r2, _⟩ := read_fin Ieee.single y fy
              unfold Ieee.Format.order at ho
              rw [r1, r2] at ho
              simp only [Ieee.Datum.order] at ho
              split at ho <;> simp at ho
            · unfold Fnt at fy
              rw [rgs, s_inf] at fy
              rw [rgs, rgs]; omega
        rw [rgs, rgs] at hr
        unfold sg at hs
        rw [s_sw] at hs
        have a1 : x / 2147483648 < 2 := by omega
        have a2 : y / 2147483648 < 2 := by omega
        have hd : x / 2147483648 = y / 2147483648 := by
          have b1 : ∀ a, a < 2 → a % 2 = a := fun a h => by omega
          rw [b1 _ a1, b1 _ a2] at hs
          have b2 : ∀ a : Nat, a < 2 → (a == 1) = decide (a = 1) := fun a _ => rfl
          rw [b2 _ a1, b2 _ a2, decide_eq_decide] at hs
          omega
        omega
      have : (Ieee.single.order x y == some .eq) = false := by simp [hne]
      rw [this]; rfl
    · have : (sg Ieee.single x == sg Ieee.single y) = false := by simp [hs]
      rw [this, Bool.and_false]

set_option maxHeartbeats 1000000 in
theorem sameNumber_any (x y : Nat) (w : World) (hx : x < 4294967296) (hy : y < 4294967296) : Calls Tryz.prog 49 #[.float .f32 x, .float .f32 y] w fun e w' => e = .returned (.bool (decide (cn x = cn y))) ∧ w = w' := by
  have n1 := neq_self_f x
  have n2 := neq_self_f y
  cases nx : nanB x
  · cases ny : nanB y
    · obtain ⟨r1, c1, s1⟩ := conv_up_some nx
      obtain ⟨r2, c2, s2⟩ := conv_up_some ny
      have w1 := floatToFloatBits_wf (show (Lit.float .f32 x).wf = true by simp [Lit.wf, hx]) c1
      have w2 := floatToFloatBits_wf (show (Lit.float .f32 y).wf = true by simp [Lit.wf, hy]) c2
      have l1 : r1 < 2 ^ 64 := by simpa [Lit.wf] using w1
      have l2 : r2 < 2 ^ 64 := by simpa [Lit.wf] using w2
      have v1 := run_convert_float_float (P := Tryz.prog) w 28 46 .f32 .f64 x r1 (by rw [Tryz.underlying28]; rfl) Tryz.underlying46 c1
      have v2 := run_convert_float_float (P := Tryz.prog) w 28 46 .f32 .f64 y r2 (by rw [Tryz.underlying28]; rfl) Tryz.underlying46 c2
      have hs := same_word hx hy nx ny
      have HC : Hid (decide (cn x = cn y) = decide (x = y)) := by show decide (cn x = cn y) = decide (x = y); unfold cn; rw [nx, ny]; rfl
      rw [nx] at n1
      rw [ny] at n2
      have L1 := Lib.hid l1
      have L2 := Lib.hid l2
      have HS := Lib.hid hs
      have S1 := Lib.hid s1
      have S2 := Lib.hid s2
      clear nx ny c1 c2 w1 w2 l1 l2 hs s1 s2
      generalize hd : decide (x = y) = t at *
      have HD := Lib.hid hd
      clear hd
      cases ho : (FloatKind.f32.format.order x y == some .eq)
      · have HO := Lib.hid ho
        go_enter Tryz.func49, Tryz.ntmps49
        go_wp2
        go_ret
        exact ⟨ret_bool (by rw [HC.out, ← HS.out]; have := HO.out; rw [show (Ieee.single.order x y == some .eq) = false from this]; rfl), rfl⟩
      · have HO := Lib.hid ho
        cases hq : (sg Ieee.single x == sg Ieee.single y)
        all_goals
          have hq3 := hq
          rw [← S1.out, ← S2.out] at hq3
          have HQ := Lib.hid hq
          clear hq
          generalize hb1 : sg Ieee.double r1 = b1 at hq3
          generalize hb2 : sg Ieee.double r2 = b2 at hq3
          have HB1 := Lib.hid hb1
          have HB2 := Lib.hid hb2
          clear hb1 hb2
          go_enter Tryz.func49, Tryz.ntmps49
          go_wp2_with (first | (go_at_call 64; (with_reducible refine (signbit_any r1 _ L1.out).mono ?_); rw [HB1.out]; rintro e w' ⟨rfl, rfl⟩) | (go_at_call 64; (with_reducible refine (signbit_any r2 _ L2.out).mono ?_); rw [HB2.out]; rintro e w' ⟨rfl, rfl⟩))
          go_ret
          exact ⟨ret_bool (by rw [HC.out, ← HS.out, HQ.out]; have := HO.out; rw [show (Ieee.single.order x y == some .eq) = true from this]; rfl), rfl⟩
    · have HC : Hid (decide (cn x = cn y) = false) := by
        show decide (cn x = cn y) = false
        unfold cn; rw [nx, ny]
        unfold nanB at nx
        have := of_decide_eq_false nx
        refine decide_eq_false ?_
        simp only [Bool.false_eq_true, if_false, if_true]
        omega
      rw [nx] at n1
      rw [ny] at n2
      clear nx ny
      go_enter Tryz.func49, Tryz.ntmps49
      go_wp2
      go_ret
      exact ⟨ret_bool (by rw [HC.out]), rfl⟩
  · cases ny : nanB y
    · have HC : Hid (decide (cn x = cn y) = false) := by
        show decide (cn x = cn y) = false
        unfold cn; rw [nx, ny]
        unfold nanB at ny
        have := of_decide_eq_false ny
        refine decide_eq_false ?_
        simp only [Bool.false_eq_true, if_false, if_true]
        omega
      rw [nx] at n1
      rw [ny] at n2
      clear nx ny
      go_enter Tryz.func49, Tryz.ntmps49
      go_wp2
      go_ret
      exact ⟨ret_bool (by rw [HC.out]), rfl⟩
    · have HC : Hid (decide (cn x = cn y) = true) := by
        show decide (cn x = cn y) = true
        unfold cn; rw [nx, ny]; rfl
      rw [nx] at n1
      rw [ny] at n2
      clear nx ny
      go_enter Tryz.func49, Tryz.ntmps49
      go_wp2
      go_ret
      exact ⟨ret_bool (by rw [HC.out]), rfl⟩

theorem map_take_succ {xs ys : List Nat} {k : Nat} (hp : (xs.take k).map cn = (ys.take k).map cn) (hx : k < xs.length) (hy : k < ys.length) (h : cn (xs[k]?.getD 0) = cn (ys[k]?.getD 0)) : (xs.take (k + 1)).map cn = (ys.take (k + 1)).map cn := by
  rw [List.take_succ_eq_append_getElem hx, List.take_succ_eq_append_getElem hy, List.map_append, List.map_append, hp]
  simp [List.getElem?_eq_getElem hx, List.getElem?_eq_getElem hy] at h
  simp [h]
theorem map_ne {xs ys : List Nat} {k : Nat} (hx : k < xs.length) (hy : k < ys.length) (h : ¬ cn (xs[k]?.getD 0) = cn (ys[k]?.getD 0)) : sameB xs ys = false := by
  unfold sameB
  refine decide_eq_false fun e => h ?_
  have e2 := congrArg (fun l => l[k]?) e
  simp only [List.getElem?_map] at e2
  rw [List.getElem?_eq_getElem hx, List.getElem?_eq_getElem hy] at e2 ⊢
  simpa using e2
theorem sameB_of_take {xs ys : List Nat} {k : Nat} (hp : (xs.take k).map cn = (ys.take k).map cn) (hx : xs.length = k) (hy : ys.length = k) : sameB xs ys = true := by
  rw [List.take_of_length_le (by omega), List.take_of_length_le (by omega)] at hp
  unfold sameB
  exact decide_eq_true hp
theorem sameB_len {xs ys : List Nat} (h : ¬ xs.length = ys.length) : sameB xs ys = false := by
  unfold sameB
  refine decide_eq_false fun e => h ?_
  have := congrArg List.length e
  simpa using this

end Go.Proofs.YtimhljcebeiofaaGreatDoor
