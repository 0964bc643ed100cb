/- The contracts of the plain functions on floats: finite numbers, sums, rows of chances. -/
import Derived.Test.YtmocfnpbofeiiaaMCod
import Derived.Test.YtmocfnpbofeiiaaMFw
namespace Go.Proofs.Ytmocfnpbofeiiaa
set_option linter.unusedSimpArgs false
set_option linter.unusedVariables false
open Go.RowKit

theorem run_float_none (w : World) (op : BinOp) (t : TypeId) (x y : Nat) (hop : op = .add ∨ op = .sub ∨ op = .mul ∨ op = .quo) (h : floatBits op .f32 x y = none) : ∃ n, (binOp op t (.float .f32 x) (.float .f32 y)).run Try.prog w = .ok (.float .f32 n) w.drew ∧ nanB n = true := by
  have hn : ∀ t : Nat, nanB ((t % 2) * 2 ^ 31 + 0x7f800000 + 1 + (t / 2) % (2 ^ 23 - 1)) = true := by
    intro t; unfold nanB; refine decide_eq_true ?_
    rcases Nat.mod_two_eq_zero_or_one t with h | h <;> rw [h] <;> omega
  refine ⟨_, ?_, hn (w.tape w.drawn (.nanBits .f32 x y))⟩
  unfold floatBits at h
  rcases hop with rfl | rfl | rfl | rfl <;> simp only at h <;> simp [binOp, Op.floatArith, h, choose, Sem.run, Question.forced, Question.cut]


set_option maxHeartbeats 400000 in
theorem implIsFinite_any (x : Nat) (w : World) : Calls Try.prog 69 #[.float .f32 x] w fun e w' => e = .returned (.bool (finB x)) ∧ Qu w w' := by
  generalize hf : finB x = t
  cases t
  · obtain ⟨n, hrun, hn⟩ := run_float_none w .sub 32 x x (.inr (.inl rfl)) (sub_self_inf hf)
    have ho : FloatKind.f32.format.order n 0 = none := order_nan hn 0
    clear hf hn
    go_enter Try.func69, Try.ntmps69
    go_wp2
    go_ret
    exact ⟨rfl, 1, rfl⟩
  · have hrun := run_float_arith (P := Try.prog) w .sub 32 .f32 x x 0 (sub_self_fin hf)
    have ho : FloatKind.f32.format.order 0 0 = some .eq := by decide
    clear hf
    go_enter Try.func69, Try.ntmps69
    go_wp2
    go_ret
    exact ⟨rfl, Qu.refl _⟩

set_option maxHeartbeats 400000 in
theorem l01Finite_any (x : Nat) (w : World) : Calls Try.prog 122 #[.float .f32 x] w fun e w' => e = .returned (.bool (finB x)) ∧ Qu w w' := by
  generalize hf : finB x = t
  cases t
  · obtain ⟨n, hrun, hn⟩ := run_float_none w .sub 32 x x (.inr (.inl rfl)) (sub_self_inf hf)
    have ho : FloatKind.f32.format.order n 0 = none := order_nan hn 0
    clear hf hn
    go_enter Try.func122, Try.ntmps122
    go_wp2
    go_ret
    exact ⟨rfl, 1, rfl⟩
  · have hrun := run_float_arith (P := Try.prog) w .sub 32 .f32 x x 0 (sub_self_fin hf)
    have ho : FloatKind.f32.format.order 0 0 = some .eq := by decide
    clear hf
    go_enter Try.func122, Try.ntmps122
    go_wp2
    go_ret
    exact ⟨rfl, Qu.refl _⟩

/-- The sum of a list, from +0 on. -/
def fsum (xs : List Nat) : Nat := xs.foldl (fA .add .f32) 0
theorem fsum_take_succ (xs : List Nat) (k : Nat) (h : k < xs.length) : fsum (xs.take (k + 1)) = fA .add .f32 (fsum (xs.take k)) (xs[k]?.getD 0) := by
  unfold fsum
  rw [List.take_succ_eq_append_getElem h, List.foldl_append]
  simp [List.getElem?_eq_getElem h]
theorem foldl_pn (xs : List Nat) (h : ∀ x ∈ xs, Pn x) : ∀ s, s ≤ 2139095040 → xs.foldl (fA .add .f32) s ≤ 2139095040 ∧ s ≤ xs.foldl (fA .add .f32) s ∧ ∀ x ∈ xs, x % 2147483648 ≤ xs.foldl (fA .add .f32) s := by
  induction xs with
  | nil => intro s hs; exact ⟨hs, Nat.le_refl _, fun x hx => by cases hx⟩
  | cons a l ih =>
    intro s hs
    obtain ⟨_, a2, a3, a4⟩ := add_pn hs (h a (List.mem_cons_self ..))
    obtain ⟨b1, b2, b3⟩ := ih (fun x hx => h x (List.mem_cons_of_mem _ hx)) _ a2
    rw [List.foldl_cons]
    refine ⟨b1, by omega, fun x hx => ?_⟩
    rcases List.mem_cons.1 hx with rfl | hx
    · omega
    · exact b3 x hx
theorem fsum_le {xs : List Nat} (h : ∀ x ∈ xs, Pn x) : fsum xs ≤ 2139095040 := (foldl_pn xs h 0 (by omega)).1
theorem le_fsum {xs : List Nat} (h : ∀ x ∈ xs, Pn x) : ∀ x ∈ xs, x % 2147483648 ≤ fsum xs := (foldl_pn xs h 0 (by omega)).2.2
theorem fsum_take_le {xs : List Nat} (h : ∀ x ∈ xs, Pn x) (k : Nat) : fsum (xs.take k) ≤ 2139095040 := fsum_le fun x hx => h x (List.mem_of_mem_take hx)
theorem get_pn {xs : List Nat} {p : Nat → Prop} (h : ∀ x ∈ xs, p x) {k : Nat} (hk : k < xs.length) : p (xs[k]?.getD 0) := by
  rw [List.getElem?_eq_getElem hk]; exact h _ (List.getElem_mem hk)
theorem ieq_true {i j : Int} (h : i = j) : (i == j) = true := by simp [h]
theorem ieq_false {i j : Int} (h : ¬ i = j) : (i == j) = false := by simp [h]
theorem ret_float {k : FloatKind} {a b : Nat} (h : a = b) : Ending.returned (.float k a) = .returned (.float k b) := by rw [h]

set_option maxHeartbeats 400000 in
theorem addUp_any (v : Value) (xs : List Nat) (w : World) (hv : SlR w v (xs.map (Value.float .f32))) (hp : ∀ x ∈ xs, Pn x) :
    Calls Try.prog 86 #[v] w fun e w' => e = .returned (.float .f32 (fsum xs)) ∧ w = w' := by
  obtain ⟨a, n, c, rfl, hnl, hnc, hcm, hcell⟩ := SlR.opened 0 hv
  unfold maxLen at hcm
  have hn9 : n ≤ 9223372036854775807 := by omega
  have HN := Lib.hid hnl
  have HC := Lib.hid hcell
  have HP := Lib.hid hp
  clear hnl hcell hcm hnc hv hp
  go_enter Try.func86, Try.ntmps86
  go_wp2
  go_loop [3, 8] (fun s i => ∃ k : Nat, k ≤ n ∧ i = .int .i64 k ∧ s = .float .f32 (fsum (xs.take k))) (fun _ i => n - (intOf i).toNat)
  case atStart => exact ⟨0, Nat.zero_le _, rfl, rfl⟩
  case round =>
    obtain ⟨k, hk, rfl, rfl⟩ := hrel
    by_cases hlt : k < n
    · obtain ⟨b, off, rfl, hc, hbl⟩ := HC.out k hlt
      rw [List.getD_eq_getElem?_getD] at hc
      have hkl : k < xs.length := by rw [HN.out]; exact hlt
      have hadd := (add_pn (fsum_take_le HP.out k) (get_pn HP.out hkl)).1
      have HS := Lib.hid (fsum_take_succ xs k hkl)
      generalize xs[k]?.getD 0 = z at *
      generalize fsum (xs.take k) = s at *
      clear hkl
      go_wp2
      go_round
      case rel => exact ⟨k + 1, by omega, by go_num, by rw [HS.out]⟩
      case measure => simp [intOf]; omega
    · obtain rfl : n = k := by omega
      go_wp2
      go_ret
      exact ⟨ret_float (by rw [List.take_of_length_le (by rw [HN.out]; exact Nat.le_refl _)]), rfl⟩

set_option maxHeartbeats 400000 in
theorem l02Sum_any (v : Value) (xs : List Nat) (w : World) (hv : SlR w v (xs.map (Value.float .f32))) (hp : ∀ x ∈ xs, Pn x) :
    Calls Try.prog 119 #[v] w fun e w' => e = .returned (.float .f32 (fsum xs)) ∧ w = w' := by
  obtain ⟨a, n, c, rfl, hnl, hnc, hcm, hcell⟩ := SlR.opened 0 hv
  unfold maxLen at hcm
  have hn9 : n ≤ 9223372036854775807 := by omega
  have HN := Lib.hid hnl
  have HC := Lib.hid hcell
  have HP := Lib.hid hp
  clear hnl hcell hcm hnc hv hp
  go_enter Try.func119, Try.ntmps119
  go_wp2
  go_loop [3, 4] (fun s i => ∃ k : Nat, k ≤ n ∧ i = .int .i64 k ∧ s = .float .f32 (fsum (xs.take k))) (fun _ i => n - (intOf i).toNat)
  case atStart => exact ⟨0, Nat.zero_le _, rfl, rfl⟩
  case round =>
    obtain ⟨k, hk, rfl, rfl⟩ := hrel
    by_cases hlt : k < n
    · obtain ⟨b, off, rfl, hc, hbl⟩ := HC.out k hlt
      rw [List.getD_eq_getElem?_getD] at hc
      have hkl : k < xs.length := by rw [HN.out]; exact hlt
      have hadd := (add_pn (fsum_take_le HP.out k) (get_pn HP.out hkl)).1
      have HS := Lib.hid (fsum_take_succ xs k hkl)
      generalize xs[k]?.getD 0 = z at *
      generalize fsum (xs.take k) = s at *
      clear hkl
      go_wp2
      go_round
      case rel => exact ⟨k + 1, by omega, by go_num, by rw [HS.out]⟩
      case measure => simp [intOf]; omega
    · obtain rfl : n = k := by omega
      go_wp2
      go_ret
      exact ⟨ret_float (by rw [List.take_of_length_le (by rw [HN.out]; exact Nat.le_refl _)]), rfl⟩

theorem neg_word (q : Nat) (h : q ≤ 2139095040) : Op.negFloat .f32 (2147483648 + q) = q := by
  unfold Op.negFloat
  show (2147483648 + q) ^^^ 2 ^ 31 = q
  have e : 2147483648 + q = 2 ^ 31 ||| q := by
    have := Nat.two_pow_add_eq_or_of_lt (i := 31) (b := q) (by omega) 1
    simpa using this
  rw [e, Nat.or_comm]
  apply Nat.eq_of_testBit_eq
  intro i
  simp only [Nat.testBit_xor, Nat.testBit_or, Nat.testBit_two_pow]
  by_cases hi : 31 = i
  · subst hi
    have : q.testBit 31 = false := Nat.testBit_lt_two_pow (by omega)
    simp [this]
  · simp [hi]

set_option maxHeartbeats 400000 in
theorem absolute_pos (x : Nat) (w : World) (hx : x ≤ 2139095040) : Calls Try.prog 100 #[.float .f32 x] w fun e w' => e = .returned (.float .f32 x) ∧ w = w' := by
  have ho : (FloatKind.f32.format.order x 0 == some .lt) = false := by
    show (Ieee.single.order x 0 == some .lt) = false
    rw [order_p0 (.inl hx)]; split <;> rfl
  go_enter Try.func100, Try.ntmps100
  go_wp2
  go_ret
  exact ⟨rfl, rfl⟩
set_option maxHeartbeats 400000 in
theorem absolute_neg (q : Nat) (w : World) (hx : q ≤ 2139095040) : Calls Try.prog 100 #[.float .f32 (2147483648 + q)] w fun e w' => (e = .returned (.float .f32 (if q = 0 then 2147483648 else q))) ∧ w = w' := by
  by_cases h0 : q = 0
  · subst h0
    have ho : FloatKind.f32.format.order 2147483648 0 = some .eq := by decide
    go_enter Try.func100, Try.ntmps100
    go_wp2
    go_ret
    exact ⟨rfl, rfl⟩
  · have ho : FloatKind.f32.format.order (2147483648 + q) 0 = some .lt := by
      show Ieee.single.order _ _ = _
      rw [order_nz hx, if_neg h0]
    have hq : Op.negFloat .f32 (2147483648 + q) = q := neg_word q hx
    rw [if_neg h0]
    generalize 2147483648 + q = z at *
    go_enter Try.func100, Try.ntmps100
    go_wp2
    go_ret
    exact ⟨rfl, rfl⟩

/-- A chance: finite, at least zero. -/
def chB (x : Nat) : Bool := decide (x < 2139095040 ∨ x = 2147483648)
theorem chB_ch {x : Nat} (h : chB x = true) : Ch x := by unfold chB at h; simpa [Ch] using h
theorem ch_finB {x : Nat} (h : Ch x) : finB x = true := by unfold Ch at h; unfold finB; exact decide_eq_true (by omega)
theorem all_ch {xs : List Nat} (h : xs.all chB = true) : ∀ x ∈ xs, Ch x := fun x hx => chB_ch (List.all_eq_true.1 h x hx)
theorem all_pn {xs : List Nat} (h : xs.all chB = true) : ∀ x ∈ xs, Pn x := fun x hx => (all_ch h x hx).pn
/-- What is finite and no chance is below zero. -/
theorem order_no {x : Nat} (hx : x < 4294967296) (h : chB x = false) (hf : finB x = true) : Ieee.single.order x 0 = some .lt := by
  have h1 := of_decide_eq_false h
  have h2 := of_decide_eq_true hf
  have e : x = 2147483648 + (x - 2147483648) := by omega
  rw [e, order_nz (by omega), if_neg (by omega)]
/-- A sum is nearly 1. -/
def nearB (s : Nat) : Bool := decide (fA .sub .f32 s 1065353216 % 2147483648 ≤ 981668463)
/-- Chances that are nearly 1 altogether. -/
def oneB (xs : List Nat) : Bool := xs.all chB && nearB (fsum xs)
def rowB (xs : List Nat) : Bool := decide (1 ≤ xs.length) && decide (xs.length ≤ 32) && oneB xs
theorem oneB_ch {xs : List Nat} (h : oneB xs = true) : ∀ x ∈ xs, Ch x := by
  unfold oneB at h; rw [Bool.and_eq_true] at h; exact all_ch h.1
theorem rowB_one {xs : List Nat} (h : rowB xs = true) : 1 ≤ xs.length ∧ xs.length ≤ 32 ∧ oneB xs = true := by
  unfold rowB at h; simp only [Bool.and_eq_true, decide_eq_true_eq] at h; exact ⟨h.1.1, h.1.2, h.2⟩
theorem leq_pp {x y : Nat} (hx : x ≤ 2139095040) (hy : y ≤ 2139095040) : (Ieee.single.order x y == some .lt || Ieee.single.order x y == some .eq) = decide (x ≤ y) := by
  rw [order_pp hx hy]
  by_cases h : x < y
  · rw [Nat.compare_eq_lt.2 h, decide_eq_true (by omega)]; rfl
  · by_cases h' : x = y
    · rw [Nat.compare_eq_eq.2 h', decide_eq_true (by omega)]; rfl
    · rw [Nat.compare_eq_gt.2 (by omega), decide_eq_false (by omega)]; rfl
theorem leq_np {q y : Nat} (hq : q ≤ 2139095040) (hy : y ≤ 2139095040) (h0 : 0 < y) : (Ieee.single.order (2147483648 + q) y == some .lt || Ieee.single.order (2147483648 + q) y == some .eq) = true := by
  rw [order_np hq hy h0]; rfl

set_option maxHeartbeats 1000000 in
theorem isOne_any (v : Value) (xs : List Nat) (w : World) (hv : SlR w v (xs.map (Value.float .f32))) (hw : ∀ x ∈ xs, x < 4294967296) :
    Calls Try.prog 83 #[v] w fun e w' => e = .returned (.bool (oneB xs)) ∧ Qu w w' := by
  obtain ⟨a, n, c, rfl, hnl, hnc, hcm, hcell⟩ := SlR.opened 0 hv
  unfold maxLen at hcm
  have hn9 : n ≤ 9223372036854775807 := by omega
  have HN := Lib.hid hnl
  have HC := Lib.hid hcell
  have HW := Lib.hid hw
  clear hnl hcell hcm hnc hw
  go_enter Try.func83, Try.ntmps83
  go_wp2
  go_loopw [7] (fun i wr => ∃ k : Nat, k ≤ n ∧ i = .int .i64 k ∧ (xs.take k).all chB = true ∧ Qu w wr) (fun i _ => n - (intOf i).toNat)
  case atStart => exact ⟨0, Nat.zero_le _, rfl, rfl, Qu.refl _⟩
  case round =>
    obtain ⟨k, hk, rfl, hpre, m, rfl⟩ := hrel
    have HP := Lib.hid hpre
    clear hpre
    by_cases hlt : k < n
    · obtain ⟨b, off, rfl, hc, hbl⟩ := HC.out k hlt
      rw [List.getD_eq_getElem?_getD] at hc
      have hkl : k < xs.length := by rw [HN.out]; exact hlt
      have hz := get_pn HW.out hkl
      have HA := Lib.hid (all_take_succ xs chB k 0 hkl)
      have HF := Lib.hid (all_false_of xs chB k 0 hkl)
      clear hkl
      generalize xs[k]?.getD 0 = z at *
      cases hcb : chB z
      · cases hf : finB z
        · have HFF := Lib.hid (HF.out hcb)
          have HX := Lib.hid hf
          clear hcb hf
          go_wp2_with (go_at_call 69; refine (implIsFinite_any _ _).mono ?_; rw [HX.out]; rintro e w' ⟨rfl, m', rfl⟩)
          go_ret
          exact ⟨ret_bool (by unfold oneB; rw [HFF.out]; rfl), _, rfl⟩
        · have HFF := Lib.hid (HF.out hcb)
          have HX := Lib.hid hf
          have ho : FloatKind.f32.format.order z 0 = some .lt := order_no hz hcb hf
          clear hcb hf
          go_wp2_with (go_at_call 69; refine (implIsFinite_any _ _).mono ?_; rw [HX.out]; rintro e w' ⟨rfl, m', rfl⟩)
          go_ret
          exact ⟨ret_bool (by unfold oneB; rw [HFF.out]; rfl), _, rfl⟩
      · have HX := Lib.hid (ch_finB (chB_ch hcb))
        have ho := order_p0 (chB_ch hcb).pn
        have HCB := Lib.hid hcb
        clear hcb
        by_cases h0 : z % 2147483648 = 0
        all_goals
          first | rw [if_pos h0] at ho | rw [if_neg h0] at ho
          replace ho : FloatKind.f32.format.order z 0 = some _ := ho
          clear h0
          go_wp2_with (go_at_call 69; refine (implIsFinite_any _ _).mono ?_; rw [HX.out]; rintro e w' ⟨rfl, m', rfl⟩)
          go_roundw
          case rel => exact ⟨k + 1, by omega, by go_num, by rw [HA.out, HP.out, HCB.out]; rfl, _, rfl⟩
          case measure => simp [intOf]; omega
    · obtain rfl : n = k := by omega
      have hall : xs.all chB = true := by
        have h := HP.out; rw [List.take_of_length_le (by rw [HN.out]; exact Nat.le_refl _)] at h; exact h
      have hp := all_pn hall
      obtain ⟨s, hse⟩ : ∃ s, fsum xs = s := ⟨_, rfl⟩
      have hs := fsum_le hp
      have HO : Hid (oneB xs = nearB s) := by show oneB xs = _; unfold oneB; rw [hall, hse]; rfl
      rw [hse] at hs
      obtain ⟨g1, _, q, hq, hc⟩ := sub_one hs
      have HQ := Lib.hid hp
      have HS := Lib.hid hse
      have hvw := hv.below (Qu.below ⟨m, rfl⟩ (w' := w.drewN m) w.heap.size)
      clear hall hp hse hs
      unfold nearB at HO
      have hl : (FloatKind.f32.format.order q 981668463 == some .lt || FloatKind.f32.format.order q 981668463 == some .eq) = decide (q ≤ 981668463) := leq_pp hq (by omega)
      rcases hc with ⟨c1, -, -⟩ | ⟨c1, -, -⟩ | ⟨c1, -, -, -⟩
      · have HR : Hid (oneB xs = decide (q ≤ 981668463)) := by show oneB xs = _; rw [HO.out, c1, Nat.mod_eq_of_lt (by omega)]
        clear HO
        go_wp2_with (first | (go_at_call 86; refine (addUp_any _ xs _ hvw HQ.out).mono ?_; rw [HS.out]; rintro e w' ⟨rfl, rfl⟩) | (go_at_call 100; refine (absolute_pos q _ hq).mono ?_; rintro e w' ⟨rfl, rfl⟩))
        go_ret
        exact ⟨ret_bool HR.out.symm, _, rfl⟩
      · have HR : Hid (oneB xs = decide (q ≤ 981668463)) := by show oneB xs = _; rw [HO.out, c1, show (2147483648 + q) % 2147483648 = q by omega]
        clear HO
        by_cases h0 : q = 0
        · subst h0
          have hl2 : (FloatKind.f32.format.order 2147483648 981668463 == some .lt || FloatKind.f32.format.order 2147483648 981668463 == some .eq) = true := by decide
          go_wp2_with (first | (go_at_call 86; refine (addUp_any _ xs _ hvw HQ.out).mono ?_; rw [HS.out]; rintro e w' ⟨rfl, rfl⟩) | (go_at_call 100; refine (absolute_neg 0 _ hq).mono ?_; rw [if_pos rfl]; rintro e w' ⟨rfl, rfl⟩))
          go_ret
          exact ⟨ret_bool HR.out.symm, _, rfl⟩
        · have H0 := Lib.hid h0
          clear h0
          go_wp2_with (first | (go_at_call 86; refine (addUp_any _ xs _ hvw HQ.out).mono ?_; rw [HS.out]; rintro e w' ⟨rfl, rfl⟩) | (go_at_call 100; refine (absolute_neg q _ hq).mono ?_; rw [if_neg H0.out]; rintro e w' ⟨rfl, rfl⟩))
          go_ret
          exact ⟨ret_bool HR.out.symm, _, rfl⟩
      · have HR : Hid (oneB xs = decide (q ≤ 981668463)) := by show oneB xs = _; rw [HO.out, c1, Nat.mod_eq_of_lt (by omega)]
        clear HO
        go_wp2_with (first | (go_at_call 86; refine (addUp_any _ xs _ hvw HQ.out).mono ?_; rw [HS.out]; rintro e w' ⟨rfl, rfl⟩) | (go_at_call 100; refine (absolute_pos q _ hq).mono ?_; rintro e w' ⟨rfl, rfl⟩))
        go_ret
        exact ⟨ret_bool HR.out.symm, _, rfl⟩

set_option maxHeartbeats 400000 in
theorem l02Least_any (x : Nat) (w : World) (hx : x < 4294967296) : Calls Try.prog 139 #[.float .f32 x] w fun e w' => e = .returned (.bool (chB x)) ∧ Qu w w' := by
  cases hcb : chB x
  · cases hf : finB x
    · have HX := Lib.hid hf
      clear hcb hf
      go_enter Try.func139, Try.ntmps139
      go_wp2_with (go_at_call 122; refine (l01Finite_any _ _).mono ?_; rw [HX.out]; rintro e w' ⟨rfl, m', rfl⟩)
      go_ret
      exact ⟨rfl, _, rfl⟩
    · have HX := Lib.hid hf
      have ho : FloatKind.f32.format.order x 0 = some .lt := order_no hx hcb hf
      clear hcb hf
      go_enter Try.func139, Try.ntmps139
      go_wp2_with (go_at_call 122; refine (l01Finite_any _ _).mono ?_; rw [HX.out]; rintro e w' ⟨rfl, m', rfl⟩)
      go_ret
      exact ⟨rfl, _, rfl⟩
  · have HX := Lib.hid (ch_finB (chB_ch hcb))
    have ho := order_p0 (chB_ch hcb).pn
    clear hcb
    by_cases h0 : x % 2147483648 = 0
    all_goals
      first | rw [if_pos h0] at ho | rw [if_neg h0] at ho
      replace ho : FloatKind.f32.format.order x 0 = some _ := ho
      clear h0
      go_enter Try.func139, Try.ntmps139
      go_wp2_with (go_at_call 122; refine (l01Finite_any _ _).mono ?_; rw [HX.out]; rintro e w' ⟨rfl, m', rfl⟩)
      go_ret
      exact ⟨rfl, _, rfl⟩

set_option maxHeartbeats 1000000 in
theorem l02Chances_any (v : Value) (xs : List Nat) (w : World) (hv : SlR w v (xs.map (Value.float .f32))) (hw : ∀ x ∈ xs, x < 4294967296) :
    Calls Try.prog 118 #[v] w fun e w' => e = .returned (.bool (oneB xs)) ∧ Qu w w' := by
  obtain ⟨a, n, c, rfl, hnl, hnc, hcm, hcell⟩ := SlR.opened 0 hv
  unfold maxLen at hcm
  have hn9 : n ≤ 9223372036854775807 := by omega
  have HN := Lib.hid hnl
  have HC := Lib.hid hcell
  have HW := Lib.hid hw
  clear hnl hcell hcm hnc hw
  go_enter Try.func118, Try.ntmps118
  go_wp2
  go_loopw [3] (fun i wr => ∃ k : Nat, k ≤ n ∧ i = .int .i64 k ∧ (xs.take k).all chB = true ∧ Qu w wr) (fun i _ => n - (intOf i).toNat)
  case atStart => exact ⟨0, Nat.zero_le _, rfl, rfl, Qu.refl _⟩
  case round =>
    obtain ⟨k, hk, rfl, hpre, m, rfl⟩ := hrel
    have HP := Lib.hid hpre
    clear hpre
    by_cases hlt : k < n
    · obtain ⟨b, off, rfl, hc, hbl⟩ := HC.out k hlt
      rw [List.getD_eq_getElem?_getD] at hc
      have hkl : k < xs.length := by rw [HN.out]; exact hlt
      have hz := get_pn HW.out hkl
      have HA := Lib.hid (all_take_succ xs chB k 0 hkl)
      have HF := Lib.hid (all_false_of xs chB k 0 hkl)
      clear hkl
      generalize xs[k]?.getD 0 = z at *
      cases hcb : chB z
      all_goals
        have HX := Lib.hid hcb
        clear hcb
        go_wp2_with (go_at_call 139; refine (l02Least_any _ _ hz).mono ?_; rw [HX.out]; rintro e w' ⟨rfl, m', rfl⟩)
      · go_ret
        exact ⟨ret_bool (by unfold oneB; rw [HF.out HX.out]; rfl), _, rfl⟩
      · go_roundw
        case rel => exact ⟨k + 1, by omega, by go_num, by rw [HA.out, HP.out, HX.out]; rfl, _, rfl⟩
        case measure => simp [intOf]; omega
    · obtain rfl : n = k := by omega
      have hall : xs.all chB = true := by
        have h := HP.out; rw [List.take_of_length_le (by rw [HN.out]; exact Nat.le_refl _)] at h; exact h
      have hp := all_pn hall
      obtain ⟨s, hse⟩ : ∃ s, fsum xs = s := ⟨_, rfl⟩
      have hs := fsum_le hp
      have HO : Hid (oneB xs = nearB s) := by show oneB xs = _; unfold oneB; rw [hall, hse]; rfl
      rw [hse] at hs
      obtain ⟨g1, g2, q, hq, hc⟩ := sub_one hs
      have HQ := Lib.hid hp
      have HS := Lib.hid hse
      have hvw := hv.below (Qu.below ⟨m, rfl⟩ (w' := w.drewN m) w.heap.size)
      clear hall hp hse hs
      unfold nearB at HO
      rcases hc with ⟨c1, c2, -⟩ | ⟨c1, c2, -⟩ | ⟨c1, c2, h0, -⟩
      · have HR : Hid (oneB xs = decide (q ≤ 981668463)) := by show oneB xs = _; rw [HO.out, c1, Nat.mod_eq_of_lt (by omega)]
        have l2 : (FloatKind.f32.format.order (2147483648 + q) 981668463 == some .lt || FloatKind.f32.format.order (2147483648 + q) 981668463 == some .eq) = true := leq_np hq (by omega) (by omega)
        clear HO
        by_cases hl : q ≤ 981668463
        · have l1 : (FloatKind.f32.format.order q 981668463 == some .lt || FloatKind.f32.format.order q 981668463 == some .eq) = true := (leq_pp hq (by omega)).trans (decide_eq_true hl)
          have HL := Lib.hid (decide_eq_true hl)
          clear hl
          go_wp2_with (go_at_call 119; refine (l02Sum_any _ xs _ hvw HQ.out).mono ?_; rw [HS.out]; rintro e w' ⟨rfl, rfl⟩)
          go_ret
          exact ⟨ret_bool (by rw [HR.out, HL.out]), _, rfl⟩
        · have l1 : (FloatKind.f32.format.order q 981668463 == some .lt || FloatKind.f32.format.order q 981668463 == some .eq) = false := (leq_pp hq (by omega)).trans (decide_eq_false hl)
          have HL := Lib.hid (decide_eq_false hl)
          clear hl
          go_wp2_with (go_at_call 119; refine (l02Sum_any _ xs _ hvw HQ.out).mono ?_; rw [HS.out]; rintro e w' ⟨rfl, rfl⟩)
          go_ret
          exact ⟨ret_bool (by rw [HR.out, HL.out]), _, rfl⟩
      · have HR : Hid (oneB xs = decide (q ≤ 981668463)) := by show oneB xs = _; rw [HO.out, c1, show (2147483648 + q) % 2147483648 = q by omega]
        have l1 : (FloatKind.f32.format.order (2147483648 + q) 981668463 == some .lt || FloatKind.f32.format.order (2147483648 + q) 981668463 == some .eq) = true := leq_np hq (by omega) (by omega)
        have l2 : (FloatKind.f32.format.order q 981668463 == some .lt || FloatKind.f32.format.order q 981668463 == some .eq) = decide (q ≤ 981668463) := leq_pp hq (by omega)
        clear HO
        go_wp2_with (go_at_call 119; refine (l02Sum_any _ xs _ hvw HQ.out).mono ?_; rw [HS.out]; rintro e w' ⟨rfl, rfl⟩)
        go_ret
        exact ⟨ret_bool HR.out.symm, _, rfl⟩
      · subst h0
        have HR : Hid (oneB xs = true) := by show oneB xs = _; rw [HO.out, c1]; rfl
        have l1 : (FloatKind.f32.format.order 0 981668463 == some .lt || FloatKind.f32.format.order 0 981668463 == some .eq) = true := by decide
        clear HO
        go_wp2_with (go_at_call 119; refine (l02Sum_any _ xs _ hvw HQ.out).mono ?_; rw [HS.out]; rintro e w' ⟨rfl, rfl⟩)
        go_ret
        exact ⟨ret_bool HR.out.symm, _, rfl⟩

set_option maxHeartbeats 400000 in
theorem isRow_any (v : Value) (xs : List Nat) (w : World) (hv : SlR w v (xs.map (Value.float .f32))) (hw : ∀ x ∈ xs, x < 4294967296) :
    Calls Try.prog 50 #[v] w fun e w' => e = .returned (.bool (rowB xs)) ∧ Qu w w' := by
  obtain ⟨a, n, c, rfl, hnl, hnc, hcm, -⟩ := SlR.opened 0 hv
  unfold maxLen at hcm
  have hn9 : n ≤ 9223372036854775807 := by omega
  have HR : Hid (rowB xs = (decide (1 ≤ n) && decide (n ≤ 32) && oneB xs)) := by show rowB xs = _; subst hnl; rfl
  have HW := Lib.hid hw
  clear hnl hcm hnc hw
  by_cases h1 : 1 ≤ n
  · by_cases h2 : n ≤ 32
    · rw [decide_eq_true h1, decide_eq_true h2] at HR
      generalize ho : oneB xs = t at HR
      have HO := Lib.hid ho
      clear ho
      cases t
      all_goals
        go_enter Try.func50, Try.ntmps50
        go_wp2_with (go_at_call 83; refine (isOne_any _ xs _ hv HW.out).mono ?_; rw [HO.out]; rintro e w' ⟨rfl, m', rfl⟩)
        go_ret
        exact ⟨ret_bool HR.out.symm, _, rfl⟩
    · have h2' : (32 : Int) < (n : Int) := by omega
      rw [decide_eq_false h2, Bool.and_false] at HR
      go_enter Try.func50, Try.ntmps50
      go_wp2
      go_ret
      exact ⟨ret_bool HR.out.symm, Qu.refl _⟩
  · have h1' : (n : Int) < 1 := by omega
    rw [decide_eq_false h1] at HR
    go_enter Try.func50, Try.ntmps50
    go_wp2
    go_ret
    exact ⟨ret_bool HR.out.symm, Qu.refl _⟩

set_option maxHeartbeats 400000 in
theorem l02Row_any (v : Value) (xs : List Nat) (w : World) (hv : SlR w v (xs.map (Value.float .f32))) (hw : ∀ x ∈ xs, x < 4294967296) :
    Calls Try.prog 116 #[v] w fun e w' => e = .returned (.bool (rowB xs)) ∧ Qu w w' := by
  obtain ⟨a, n, c, rfl, hnl, hnc, hcm, -⟩ := SlR.opened 0 hv
  unfold maxLen at hcm
  have hn9 : n ≤ 9223372036854775807 := by omega
  have HR : Hid (rowB xs = (decide (1 ≤ n) && decide (n ≤ 32) && oneB xs)) := by show rowB xs = _; subst hnl; rfl
  have HW := Lib.hid hw
  clear hnl hcm hnc hw
  by_cases h1 : 1 ≤ n
  · by_cases h2 : n ≤ 32
    · rw [decide_eq_true h1, decide_eq_true h2] at HR
      generalize ho : oneB xs = t at HR
      have HO := Lib.hid ho
      clear ho
      cases t
      all_goals
        go_enter Try.func116, Try.ntmps116
        go_wp2_with (go_at_call 118; refine (l02Chances_any _ xs _ hv HW.out).mono ?_; rw [HO.out]; rintro e w' ⟨rfl, m', rfl⟩)
        go_ret
        exact ⟨ret_bool HR.out.symm, _, rfl⟩
    · have h2' : (32 : Int) < (n : Int) := by omega
      rw [decide_eq_false h2, Bool.and_false] at HR
      go_enter Try.func116, Try.ntmps116
      go_wp2
      go_ret
      exact ⟨ret_bool HR.out.symm, Qu.refl _⟩
  · have h1' : (n : Int) < 1 := by omega
    rw [decide_eq_false h1] at HR
    go_enter Try.func116, Try.ntmps116
    go_wp2
    go_ret
    exact ⟨ret_bool HR.out.symm, Qu.refl _⟩

set_option maxHeartbeats 400000 in
theorem asRow_yes (v : Value) (xs : List Nat) (w : World) (hv : SlR w v (xs.map (Value.float .f32))) (hw : ∀ x ∈ xs, x < 4294967296) (h : rowB xs = true) :
    Calls Try.prog 68 #[v] w fun e w' => e = .returned (.tuple #[v, .bool true]) ∧ Qu w w' := by
  obtain ⟨a, n, c, rfl, -, -, -, -⟩ := SlR.opened 0 hv
  have H := Lib.hid h
  clear h
  go_enter Try.func68, Try.ntmps68
  go_wp2_with (go_at_call 50; refine (isRow_any _ xs _ hv hw).mono ?_; rw [H.out]; rintro e w' ⟨rfl, m', rfl⟩)
  go_ret2
  exact ⟨rfl, _, rfl⟩
set_option maxHeartbeats 400000 in
theorem asRow_no (v : Value) (xs : List Nat) (w : World) (hv : SlR w v (xs.map (Value.float .f32))) (hw : ∀ x ∈ xs, x < 4294967296) (h : rowB xs = false) :
    Calls Try.prog 68 #[v] w fun e w' => e = .returned (.tuple #[.slice none 0 0, .bool false]) ∧ Qu w w' := by
  obtain ⟨a, n, c, rfl, -, -, -, -⟩ := SlR.opened 0 hv
  have H := Lib.hid h
  clear h
  go_enter Try.func68, Try.ntmps68
  go_wp2_with (go_at_call 50; refine (isRow_any _ xs _ hv hw).mono ?_; rw [H.out]; rintro e w' ⟨rfl, m', rfl⟩)
  go_ret2
  exact ⟨rfl, _, rfl⟩

/-- A number, and 0 for one that is not finite. -/
def fz (x : Nat) : Nat := if finB x then x else 0
theorem fz_nan (x : Nat) : nanB (fz x) = false := by
  unfold fz
  cases h : finB x
  · rfl
  · have := of_decide_eq_true h
    exact decide_eq_false (by simp only [if_true]; omega)

set_option maxHeartbeats 400000 in
theorem asNumber_any (x : Nat) (w : World) :
    Calls Try.prog 63 #[.float .f32 x] w fun e w' => e = .returned (.tuple #[.float .f32 (fz x), .bool (finB x)]) ∧ Qu w w' := by
  have hz : fz x = if finB x then x else 0 := rfl
  rw [hz]
  clear hz
  generalize hf : finB x = t
  have H := Lib.hid hf
  clear hf
  cases t
  all_goals
    go_enter Try.func63, Try.ntmps63
    go_wp2_with (go_at_call 69; refine (implIsFinite_any _ _).mono ?_; rw [H.out]; rintro e w' ⟨rfl, m', rfl⟩)
    go_ret2
    exact ⟨rfl, _, rfl⟩

set_option maxHeartbeats 400000 in
theorem l02Number_any (x : Nat) (w : World) :
    Calls Try.prog 96 #[.float .f32 x] w fun e w' => e = .returned (.tuple #[.float .f32 (fz x), .bool (finB x)]) ∧ Qu w w' := by
  have hz : fz x = if finB x then x else 0 := rfl
  rw [hz]
  clear hz
  generalize hf : finB x = t
  have H := Lib.hid hf
  clear hf
  cases t
  all_goals
    go_enter Try.func96, Try.ntmps96
    go_wp2_with (go_at_call 122; refine (l01Finite_any _ _).mono ?_; rw [H.out]; rintro e w' ⟨rfl, m', rfl⟩)
    go_ret2
    exact ⟨rfl, _, rfl⟩

set_option maxHeartbeats 400000 in
theorem isShare_any (x : Nat) (w : World) (hx : x < 4294967296) :
    Calls Try.prog 75 #[.float .f32 x] w fun e w' => e = .returned (.bool (decide (x ≤ 1065353216 ∨ x = 2147483648))) ∧ w = w' := by
  by_cases hn : nanB x = true
  · have o1 : FloatKind.f32.format.order x 0 = none := order_nan hn 0
    have HD : Hid (decide (x ≤ 1065353216 ∨ x = 2147483648) = false) := by
      have := of_decide_eq_true hn
      exact decide_eq_false (by omega)
    clear hn
    go_enter Try.func75, Try.ntmps75
    go_wp2
    go_ret
    exact ⟨ret_bool HD.out.symm, rfl⟩
  · have hn' : x % 2147483648 ≤ 2139095040 := by
      unfold nanB at hn; simp at hn; exact hn
    by_cases hp : Pn x
    · have ho := order_p0 hp
      have o2 : (FloatKind.f32.format.order x 1065353216 == some .lt || FloatKind.f32.format.order x 1065353216 == some .eq) = decide (x ≤ 1065353216 ∨ x = 2147483648) := by
        rcases hp with h | h
        · rw [show decide (x ≤ 1065353216 ∨ x = 2147483648) = decide (x ≤ 1065353216) from decide_eq_decide.2 (by omega)]
          exact leq_pp h (by omega)
        · subst h; decide
      generalize decide (x ≤ 1065353216 ∨ x = 2147483648) = t at *
      clear hn hn' hp
      by_cases h0 : x % 2147483648 = 0
      all_goals
        first | rw [if_pos h0] at ho | rw [if_neg h0] at ho
        replace ho : FloatKind.f32.format.order x 0 = some _ := ho
        clear h0
        go_enter Try.func75, Try.ntmps75
        go_wp2
        go_ret
        exact ⟨rfl, rfl⟩
    · have HD : Hid (decide (x ≤ 1065353216 ∨ x = 2147483648) = false) := decide_eq_false (by unfold Pn at hp; omega)
      have ho : FloatKind.f32.format.order x 0 = some .lt := by
        unfold Pn at hp
        have e : x = 2147483648 + (x - 2147483648) := by omega
        show Ieee.single.order x 0 = _
        rw [e, order_nz (by omega), if_neg (by omega)]
      clear hn hn' hp
      go_enter Try.func75, Try.ntmps75
      go_wp2
      go_ret
      exact ⟨ret_bool HD.out.symm, rfl⟩

end Go.Proofs.Ytmocfnpbofeiiaa
