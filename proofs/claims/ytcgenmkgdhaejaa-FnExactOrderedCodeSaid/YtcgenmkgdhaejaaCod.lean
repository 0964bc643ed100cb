/- Ranges and codes. -/
import Derived.Test.YtcgenmkgdhaejaaHar
namespace Go.Proofs.Ytcgenmkgdhaejaa
set_option linter.unusedSimpArgs false
set_option linter.unusedVariables false
open Go.RowKit

/-- n lies from lo to hi. -/
def inB (n lo hi : Int) : Bool := decide (lo ≤ n ∧ n ≤ hi)
theorem inB_true {n lo hi : Int} (h : inB n lo hi = true) : lo ≤ n ∧ n ≤ hi := of_decide_eq_true h
theorem inB_false {n lo hi : Int} (h : inB n lo hi = false) : ¬ (lo ≤ n ∧ n ≤ hi) := of_decide_eq_false h

set_option maxHeartbeats 400000 in
theorem within_any (n lo hi : Int) (w : World) : Calls Try.prog 50 #[.int .i64 n, .int .i64 lo, .int .i64 hi] w fun e w' => e = .returned (.bool (inB n lo hi)) ∧ w = w' := by
  by_cases h1 : lo ≤ n
  · by_cases h2 : n ≤ hi
    · have H : Hid (true = inB n lo hi) := (decide_eq_true ⟨h1, h2⟩).symm
      go_enter Try.func50, Try.ntmps50
      go_wp2
      go_ret
      exact ⟨ret_bool H.out, rfl⟩
    · have H : Hid (false = inB n lo hi) := (decide_eq_false (fun h => h2 h.2)).symm
      go_enter Try.func50, Try.ntmps50
      go_wp2
      go_ret
      exact ⟨ret_bool H.out, rfl⟩
  · have H : Hid (false = inB n lo hi) := (decide_eq_false (fun h => h1 h.1)).symm
    go_enter Try.func50, Try.ntmps50
    go_wp2
    go_ret
    exact ⟨ret_bool H.out, rfl⟩

set_option maxHeartbeats 400000 in
theorem l00In_any (n lo hi : Int) (w : World) : Calls Try.prog 45 #[.int .i64 n, .int .i64 lo, .int .i64 hi] w fun e w' => e = .returned (.bool (inB n lo hi)) ∧ w = w' := by
  by_cases h1 : lo ≤ n
  · by_cases h2 : n ≤ hi
    · have H : Hid (true = inB n lo hi) := (decide_eq_true ⟨h1, h2⟩).symm
      go_enter Try.func45, Try.ntmps45
      go_wp2
      go_ret
      exact ⟨ret_bool H.out, rfl⟩
    · have H : Hid (false = inB n lo hi) := (decide_eq_false (fun h => h2 h.2)).symm
      go_enter Try.func45, Try.ntmps45
      go_wp2
      go_ret
      exact ⟨ret_bool H.out, rfl⟩
  · have H : Hid (false = inB n lo hi) := (decide_eq_false (fun h => h1 h.1)).symm
    go_enter Try.func45, Try.ntmps45
    go_wp2
    go_ret
    exact ⟨ret_bool H.out, rfl⟩

theorem all_take_succ {α : Type} (l : List α) (p : α → Bool) (k : Nat) (d : α) (h : k < l.length) : (l.take (k + 1)).all p = ((l.take k).all p && p (l[k]?.getD d)) := by
  rw [List.take_succ_eq_append_getElem h, List.all_append]
  simp [List.getElem?_eq_getElem h]
theorem all_false_of {α : Type} (l : List α) (p : α → Bool) (k : Nat) (d : α) (h : k < l.length) (hp : p (l[k]?.getD d) = false) : l.all p = false := by
  rw [List.all_eq_false]
  exact ⟨l[k], List.getElem_mem h, by simpa [List.getElem?_eq_getElem h] using hp⟩

set_option maxHeartbeats 400000 in
theorem areWithin_any (v : Value) (xs : List Int) (lo hi : Int) (w : World) (hv : SlR w v (xs.map (Value.int .i64))) :
    Calls Try.prog 75 #[v, .int .i64 lo, .int .i64 hi] w fun e w' => e = .returned (.bool (xs.all (fun n => inB n lo hi))) ∧ w = w' := by
  obtain ⟨a, n, c, rfl, hnl, hnc, hcm, hcell⟩ := SlR.opened 0 hv
  unfold maxLen at hcm
  have hn9 : n ≤ 9223372036854775807 := by omega
  have HN := Lib.hid hnl
  have HC := Lib.hid hcell
  clear hnl hcell hcm hnc hv
  go_enter Try.func75, Try.ntmps75
  go_wp2
  go_loop [11] (fun i => ∃ k : Nat, k ≤ n ∧ i = .int .i64 k ∧ (xs.take k).all (fun n => inB n lo hi) = true) (fun i => n - (intOf i).toNat)
  case atStart => exact ⟨0, Nat.zero_le _, rfl, rfl⟩
  case round =>
    obtain ⟨k, hk, rfl, hpre⟩ := hrel
    have HP := Lib.hid hpre
    clear hpre
    by_cases hlt : k < n
    · obtain ⟨b, off, rfl, hc, hbl⟩ := HC.out k hlt
      rw [List.getD_eq_getElem?_getD] at hc
      generalize hb : inB (xs[k]?.getD 0) lo hi = t
      have HB := Lib.hid hb
      clear hb
      cases t
      · go_wp2_with (go_at_call 50; refine (within_any _ _ _ _).mono ?_; rw [HB.out]; rintro e w' ⟨rfl, rfl⟩)
        go_ret
        exact ⟨ret_bool (all_false_of xs _ k 0 (by rw [HN.out]; exact hlt) HB.out).symm, rfl⟩
      · go_wp2_with (go_at_call 50; refine (within_any _ _ _ _).mono ?_; rw [HB.out]; rintro e w' ⟨rfl, rfl⟩)
        go_round
        case rel => exact ⟨k + 1, by omega, by go_num, by rw [all_take_succ xs _ k 0 (by rw [HN.out]; exact hlt), HP.out, HB.out]; rfl⟩
        case measure => simp [intOf]; omega
    · obtain rfl : n = k := by omega
      go_wp2
      go_ret
      exact ⟨ret_bool (by have h := HP.out; rw [List.take_of_length_le (by rw [HN.out]; exact Nat.le_refl _)] at h; exact h.symm), rfl⟩
/-- What a word of length l takes. -/
def pw (l : Int) : Int := 2 ^ (32 - l).toNat
theorem pw_bd {l : Int} (h : inB l 1 32 = true) : 0 ≤ pw l ∧ pw l ≤ 2147483648 := by
  obtain ⟨h1, h2⟩ := inB_true h
  unfold pw
  obtain ⟨k, hk, hk'⟩ : ∃ k : Nat, (32 - l).toNat = k ∧ k ≤ 31 := ⟨_, rfl, by omega⟩
  rw [hk]
  have h3 : (2 : Nat) ^ k ≤ 2 ^ 31 := Nat.pow_le_pow_right (by omega) hk'
  have h4 : ((2 : Int) ^ k) = ((2 ^ k : Nat) : Int) := by simp
  rw [h4]
  exact ⟨Int.natCast_nonneg _, by omega⟩
theorem shl_pw {l : Int} (h : inB l 1 32 = true) : wrap64 (2 ^ (32 - l).toNat) = pw l := by
  have hb := pw_bd h
  exact IntWalk.wrap64_in _ ⟨by unfold pw at hb; omega, by unfold pw at hb; omega⟩
/-- The sum of what words take. -/
def kr (xs : List Int) : Int := (xs.map pw).sum
theorem sum_take_succ (l : List Int) (f : Int → Int) (k : Nat) (h : k < l.length) : ((l.take (k + 1)).map f).sum = ((l.take k).map f).sum + f (l[k]?.getD 0) := by
  rw [List.take_succ_eq_append_getElem h, List.map_append, List.sum_append]
  simp [List.getElem?_eq_getElem h]
theorem sum_bd (l : List Int) (f : Int → Int) (B : Int) (hf : ∀ x ∈ l, 0 ≤ f x ∧ f x ≤ B) : 0 ≤ (l.map f).sum ∧ (l.map f).sum ≤ B * l.length := by
  induction l with
  | nil => simp
  | cons a l ih =>
    obtain ⟨i1, i2⟩ := ih (fun x hx => hf x (List.mem_cons_of_mem _ hx))
    obtain ⟨a1, a2⟩ := hf a (List.mem_cons_self ..)
    simp only [List.map_cons, List.sum_cons, List.length_cons]
    rw [show ((l.length + 1 : Nat) : Int) = (l.length : Int) + 1 by omega, Int.mul_add]
    omega
theorem kr_bd (xs : List Int) (h : xs.all (fun n => inB n 1 32) = true) (k : Nat) (hk : k ≤ 16) : 0 ≤ kr (xs.take k) ∧ kr (xs.take k) ≤ 34359738368 := by
  have h1 := sum_bd (xs.take k) pw 2147483648 (fun x hx => pw_bd (List.all_eq_true.1 h x (List.mem_of_mem_take hx)))
  have h2 : ((xs.take k).length : Int) ≤ 16 := by have := List.length_take_le k xs; omega
  unfold kr
  omega

set_option maxHeartbeats 400000 in
theorem kraft_any (v : Value) (xs : List Int) (w : World) (hv : SlR w v (xs.map (Value.int .i64))) (hl : xs.length ≤ 16) (ha : xs.all (fun n => inB n 1 32) = true) :
    Calls Try.prog 100 #[.agg #[v]] w fun e w' => e = .returned (.int .i64 (kr xs)) ∧ w' = w.alloc (.cells #[v] 24) := by
  obtain ⟨a, n, c, rfl, hnl, hnc, hcm, hcell⟩ := SlR.opened 0 hv
  have hn9 : n ≤ 16 := by omega
  have HN := Lib.hid hnl
  have HC := Lib.hid hcell
  have HA := Lib.hid ha
  clear hnl hcell hcm hnc hv hl ha
  go_enter Try.func100, Try.ntmps100
  go_wp2
  go_loop [3, 9] (fun s i => ∃ k : Nat, k ≤ n ∧ i = .int .i64 k ∧ s = .int .i64 (kr (xs.take k))) (fun _ i => n - (intOf i).toNat)
  case atStart => exact ⟨0, Nat.zero_le _, rfl, rfl⟩
  case round =>
    obtain ⟨k, hk, rfl, rfl⟩ := hrel
    by_cases hlt : k < n
    · obtain ⟨b, off, rfl, hc, hbl⟩ := HC.out k hlt
      rw [List.getD_eq_getElem?_getD] at hc
      have hkl : k < xs.length := by rw [HN.out]; exact hlt
      have hx : inB (xs[k]?.getD 0) 1 32 = true := by
        rw [List.getElem?_eq_getElem hkl]; exact List.all_eq_true.1 HA.out _ (List.getElem_mem hkl)
      have hpw := shl_pw hx
      have hxb := inB_true hx
      obtain ⟨hp1, hp2⟩ := pw_bd hx
      obtain ⟨hk1, hk2⟩ := kr_bd xs HA.out k (by omega)
      have hc' := cell_step (W1 := w.alloc (.cells #[.slice (some ⟨b, off, none⟩) n c] 24)) hc (by go_grown)
      generalize hz : xs[k]?.getD 0 = z at *
      generalize hs : kr (xs.take k) = s at *
      have HS : Hid (kr (xs.take (k + 1)) = s + pw z) := by
        rw [← hs, ← hz]; exact sum_take_succ xs pw k hkl
      clear hz hs hx hkl hc
      go_wp2
      go_round
      case rel => exact ⟨k + 1, by omega, by go_num, by rw [HS.out]⟩
      case measure => simp [intOf]; omega
    · obtain rfl : n = k := by omega
      go_wp2
      go_ret
      exact ⟨ret_int (by rw [List.take_of_length_le (by rw [HN.out]; exact Nat.le_refl _)]), rfl⟩

set_option maxHeartbeats 400000 in
theorem l04Kraft_any (g : Nat) (v : Value) (xs : List Int) (w : World) (hg : w.cell? ⟨g, 0, none⟩ = some v) (hv : SlR w v (xs.map (Value.int .i64))) (hl : xs.length ≤ 16) (ha : xs.all (fun n => inB n 1 32) = true) :
    Calls Try.prog 99 #[.pointer (some ⟨g, 0, none⟩)] w fun e w' => e = .returned (.int .i64 (kr xs)) ∧ Qu w w' := by
  obtain ⟨a, n, c, rfl, hnl, hnc, hcm, hcell⟩ := SlR.opened 0 hv
  have hn9 : n ≤ 16 := by omega
  have HN := Lib.hid hnl
  have HC := Lib.hid hcell
  have HA := Lib.hid ha
  clear hnl hcell hcm hnc hv hl ha
  go_enter Try.func99, Try.ntmps99
  go_wp2
  go_loopw [3, 4] (fun s i wr => ∃ k : Nat, k ≤ n ∧ i = .int .i64 k ∧ s = .int .i64 (kr (xs.take k)) ∧ Qu w wr) (fun _ i _ => n - (intOf i).toNat)
  case atStart => exact ⟨0, Nat.zero_le _, rfl, rfl, Qu.refl _⟩
  case round =>
    obtain ⟨k, hk, rfl, rfl, m, rfl⟩ := hrel
    by_cases hlt : k < n
    · obtain ⟨b, off, rfl, hc, hbl⟩ := HC.out k hlt
      rw [List.getD_eq_getElem?_getD] at hc
      have hkl : k < xs.length := by rw [HN.out]; exact hlt
      have hx : inB (xs[k]?.getD 0) 1 32 = true := by
        rw [List.getElem?_eq_getElem hkl]; exact List.all_eq_true.1 HA.out _ (List.getElem_mem hkl)
      have hpw := shl_pw hx
      have hxb := inB_true hx
      obtain ⟨hp1, hp2⟩ := pw_bd hx
      obtain ⟨hk1, hk2⟩ := kr_bd xs HA.out k (by omega)
      generalize hz : xs[k]?.getD 0 = z at *
      generalize hs : kr (xs.take k) = s at *
      have HS : Hid (kr (xs.take (k + 1)) = s + pw z) := by
        rw [← hs, ← hz]; exact sum_take_succ xs pw k hkl
      clear hz hs hx hkl
      go_wp2
      go_roundw
      case rel => exact ⟨k + 1, by omega, by go_num, by rw [HS.out], _, rfl⟩
      case measure => simp [intOf]; omega
    · obtain rfl : n = k := by omega
      go_wp2
      go_ret
      exact ⟨ret_int (by rw [List.take_of_length_le (by rw [HN.out]; exact Nat.le_refl _)]), _, rfl⟩

/-- A code is valid. -/
def validC (xs : List Int) : Bool := decide (1 ≤ xs.length) && decide (xs.length ≤ 16) && xs.all (fun n => inB n 1 32) && decide (kr xs ≤ 4294967296)

set_option maxHeartbeats 1000000 in
theorem implValidCode_any (v : Value) (xs : List Int) (w : World) (hv : SlR w v (xs.map (Value.int .i64))) :
    Calls Try.prog 76 #[.agg #[v]] w fun e w' => e = .returned (.bool (validC xs)) ∧ Below w.heap.size w w' := by
  obtain ⟨a, n, c, rfl, hnl, hnc, hcm, hcell⟩ := SlR.opened 0 hv
  unfold maxLen at hcm
  have hn9 : n ≤ 9223372036854775807 := by omega
  have HV : Hid (validC xs = (decide (1 ≤ n) && decide (n ≤ 16) && xs.all (fun n => inB n 1 32) && decide (kr xs ≤ 4294967296))) := by
    subst hnl; exact rfl
  have HN := Lib.hid hnl
  have hb0 : Below w.heap.size w (w.alloc (.cells #[.slice a n c] 24)) := by go_grown
  have hv1 := hv.below hb0
  have HB := Lib.hid hb0
  clear hnl hcell hcm hnc hb0
  by_cases h1 : 1 ≤ n
  · by_cases h2 : n ≤ 16
    · generalize ht : xs.all (fun n => inB n 1 32) = t at HV
      have HT := Lib.hid ht
      clear ht
      cases t
      · go_enter Try.func76, Try.ntmps76
        go_wp2_with (go_at_call 75; refine (areWithin_any _ xs 1 32 _ hv1).mono ?_; rw [HT.out]; rintro e w' ⟨rfl, rfl⟩)
        go_ret
        exact ⟨ret_bool (by rw [HV.out]; simp), HB.out⟩
      · by_cases hk : kr xs ≤ 4294967296
        all_goals
          go_enter Try.func76, Try.ntmps76
          go_wp2_with (first | (go_at_call 75; refine (areWithin_any _ xs 1 32 _ hv1).mono ?_; rw [HT.out]; rintro e w' ⟨rfl, rfl⟩) | (go_at_call 100; refine (kraft_any _ xs _ hv1 (by rw [HN.out]; exact h2) HT.out).mono ?_; rintro e w' ⟨rfl, rfl⟩))
          go_ret
          exact ⟨ret_bool (by rw [HV.out]; simp [h1, h2, hk]), by go_grown⟩
    · have h2' : ¬ ((n : Int) ≤ 16) := by omega
      go_enter Try.func76, Try.ntmps76
      go_wp2
      go_ret
      exact ⟨ret_bool (by rw [HV.out]; simp; intro _ _; omega), HB.out⟩
  · have h1' : ¬ ((1 : Int) ≤ (n : Int)) := by omega
    go_enter Try.func76, Try.ntmps76
    go_wp2
    go_ret
    exact ⟨ret_bool (by rw [HV.out]; simp; intro _; omega), HB.out⟩

set_option maxHeartbeats 1000000 in
theorem l04Is_any (g : Nat) (v : Value) (xs : List Int) (w : World) (hg : w.cell? ⟨g, 0, none⟩ = some v) (hv : SlR w v (xs.map (Value.int .i64))) :
    Calls Try.prog 74 #[.pointer (some ⟨g, 0, none⟩)] w fun e w' => e = .returned (.bool (validC xs)) ∧ Qu w w' := by
  obtain ⟨a, n, c, rfl, hnl, hnc, hcm, hcell⟩ := SlR.opened 0 hv
  unfold maxLen at hcm
  have hn9 : n ≤ 9223372036854775807 := by omega
  have HV : Hid (validC xs = (decide (1 ≤ n) && decide (n ≤ 16) && xs.all (fun n => inB n 1 32) && decide (kr xs ≤ 4294967296))) := by
    subst hnl; exact rfl
  have HN := Lib.hid hnl
  have HC := Lib.hid hcell
  clear hnl hcell hcm hnc
  by_cases h1 : 1 ≤ n
  · by_cases h2 : n ≤ 16
    · have h1' : ¬ ((n : Int) < 1) := by omega
      have h2' : ¬ ((16 : Int) < (n : Int)) := by omega
      go_enter Try.func74, Try.ntmps74
      go_wp2
      go_loop [3] (fun i => ∃ k : Nat, k ≤ n ∧ i = .int .i64 k ∧ (xs.take k).all (fun n => inB n 1 32) = true) (fun i => n - (intOf i).toNat)
      case atStart => exact ⟨0, Nat.zero_le _, rfl, rfl⟩
      case round =>
        obtain ⟨k, hk, rfl, hpre⟩ := hrel
        have HP := Lib.hid hpre
        clear hpre
        by_cases hlt : k < n
        · obtain ⟨b, off, rfl, hc, hbl⟩ := HC.out k hlt
          rw [List.getD_eq_getElem?_getD] at hc
          generalize hb : inB (xs[k]?.getD 0) 1 32 = t
          have HB := Lib.hid hb
          clear hb
          cases t
          · go_wp2_with (go_at_call 45; refine (l00In_any _ _ _ _).mono ?_; rw [HB.out]; rintro e w' ⟨rfl, rfl⟩)
            go_ret
            exact ⟨ret_bool (by rw [HV.out, all_false_of xs _ k 0 (by rw [HN.out]; exact hlt) HB.out]; simp), Qu.refl _⟩
          · go_wp2_with (go_at_call 45; refine (l00In_any _ _ _ _).mono ?_; rw [HB.out]; rintro e w' ⟨rfl, rfl⟩)
            go_round
            case rel => exact ⟨k + 1, by omega, by go_num, by rw [all_take_succ xs _ k 0 (by rw [HN.out]; exact hlt), HP.out, HB.out]; rfl⟩
            case measure => simp [intOf]; omega
        · obtain rfl : n = k := by omega
          have HA : Hid (xs.all (fun n => inB n 1 32) = true) := by
            have h := HP.out; rw [List.take_of_length_le (by rw [HN.out]; exact Nat.le_refl _)] at h; exact h
          by_cases hk : kr xs ≤ 4294967296
          all_goals
            go_wp2_with (go_at_call 99; refine (l04Kraft_any g _ xs _ hg hv (by rw [HN.out]; exact h2) HA.out).mono ?_; rintro e w' ⟨rfl, m, rfl⟩)
            go_ret
            exact ⟨ret_bool (by rw [HV.out, HA.out]; simp [h1, h2, hk]), _, rfl⟩
    · have h1' : ¬ ((n : Int) < 1) := by omega
      have h2' : (16 : Int) < (n : Int) := by omega
      go_enter Try.func74, Try.ntmps74
      go_wp2
      go_ret
      exact ⟨ret_bool (by rw [HV.out]; simp; intro _ _; omega), Qu.refl _⟩
  · have h1' : (n : Int) < 1 := by omega
    go_enter Try.func74, Try.ntmps74
    go_wp2
    go_ret
    exact ⟨ret_bool (by rw [HV.out]; simp; intro _; omega), Qu.refl _⟩

end Go.Proofs.Ytcgenmkgdhaejaa
