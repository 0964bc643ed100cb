/- Contracts: what words take, weights, total lengths. -/
import Derived.Test.YthpajdmiakhhaaaCtr1
namespace Go.Proofs.Ythpajdmiakhhaaa
open Go.RowKit

def out_KraftOf (xs : List Int) : Int × Bool := if validC xs then (kr xs, true) else (0, false)
theorem validC_parts {xs : List Int} (h : validC xs = true) : 1 ≤ xs.length ∧ xs.length ≤ 16 ∧ xs.all (fun n => inB n 1 32) = true ∧ kr xs ≤ 4294967296 := by
  unfold validC at h
  simp only [Bool.and_eq_true, decide_eq_true_eq] at h
  exact ⟨h.1.1.1, h.1.1.2, h.1.2, h.2⟩

set_option maxHeartbeats 1000000 in
theorem impl_KraftOf (w : World) (v : Value) (xs : List Int) (hv : SlR w v (xs.map (Value.int .i64))) (_ : ∀ x ∈ xs, I64 x) (_ : xs.length ≤ 1048576) :
    Calls Try.prog 18 #[.agg #[v]] w fun e w' => e = .returned (.tuple #[.int .i64 (out_KraftOf xs).1, .bool (out_KraftOf xs).2]) ∧ Below w.heap.size w w' := by
  have hb0 : Below w.heap.size w (w.alloc (.cells #[v] 27)) := by go_grown
  have hv1 := hv.below hb0
  have hc : (w.alloc (.cells #[v] 27)).cell? ⟨w.heap.size, 0, none⟩ = some v := by simp
  have HB := Lib.hid hb0
  have HC := Lib.hid hc
  clear hb0 hc
  unfold out_KraftOf
  generalize ht : validC xs = t
  have HT := Lib.hid ht
  cases t
  · clear ht
    go_enter Try.func18, Try.ntmps18
    go_wp2_with (go_at_call 16; refine (implValidCode_any _ xs _ hv1).mono ?_; rw [HT.out]; rintro e w1 ⟨rfl, hb⟩)
    go_ret2
    exact ⟨rfl, HB.out.trans (hb.mono (by simp))⟩
  · obtain ⟨h1, h2, h3, h4⟩ := validC_parts ht
    have H2 := Lib.hid h2
    have H3 := Lib.hid h3
    clear ht h1 h2 h3 h4
    go_enter Try.func18, Try.ntmps18
    go_wp2_with (first | (go_at_call 16; refine (implValidCode_any _ xs _ hv1).mono ?_; rw [HT.out]; rintro e w1 ⟨rfl, hb⟩; have hv2 := hv1.below hb; have hc1 := cell_step HC.out hb) | (go_at_call 39; refine (kraft_any _ xs _ hv2 H2.out H3.out).mono ?_; rintro e w2 ⟨rfl, rfl⟩))
    go_ret2
    exact ⟨rfl, (HB.out.trans (hb.mono (by simp))).alloc (by have := hb.size; simp at this; omega) _⟩

set_option maxHeartbeats 1000000 in
theorem spec_KraftOf (w : World) (v : Value) (xs : List Int) (hv : SlR w v (xs.map (Value.int .i64))) (_ : ∀ x ∈ xs, I64 x) (_ : xs.length ≤ 1048576) :
    Calls Try.prog 17 #[.agg #[v]] w fun e w' => e = .returned (.tuple #[.int .i64 (out_KraftOf xs).1, .bool (out_KraftOf xs).2]) ∧ Below w.heap.size w w' := by
  have hb0 : Below w.heap.size w (w.alloc (.cells #[v] 27)) := by go_grown
  have hv1 := hv.below hb0
  have hc : (w.alloc (.cells #[v] 27)).cell? ⟨w.heap.size, 0, none⟩ = some v := by simp
  have HB := Lib.hid hb0
  have HC := Lib.hid hc
  clear hb0 hc
  unfold out_KraftOf
  generalize ht : validC xs = t
  have HT := Lib.hid ht
  cases t
  · clear ht
    go_enter Try.func17, Try.ntmps17
    go_wp2_with (go_at_call 37; refine (l04Is_any _ _ xs _ HC.out hv1).mono ?_; rw [HT.out]; rintro e w1 ⟨rfl, hq⟩)
    go_ret2
    exact ⟨rfl, HB.out.trans (hq.below _)⟩
  · obtain ⟨h1, h2, h3, h4⟩ := validC_parts ht
    have H2 := Lib.hid h2
    have H3 := Lib.hid h3
    clear ht h1 h2 h3 h4
    go_enter Try.func17, Try.ntmps17
    go_wp2_with (first | (go_at_call 37; refine (l04Is_any _ _ xs _ HC.out hv1).mono ?_; rw [HT.out]; rintro e w1 ⟨rfl, hq⟩; have hv2 := hv1.below (hq.below _); have hc1 := cell_step HC.out (hq.below _)) | (go_at_call 40; refine (l04Kraft_any _ _ xs _ hc1 hv2 H2.out H3.out).mono ?_; rintro e w2 ⟨rfl, hq2⟩))
    go_ret2
    exact ⟨rfl, HB.out.trans ((hq.trans hq2).below _)⟩

/-- A list has weights. -/
def wOk (xs : List Int) : Bool := decide (1 ≤ xs.length) && decide (xs.length ≤ 16) && xs.all (fun n => inB n 0 1000000)
theorem wOk_parts {xs : List Int} (h : wOk xs = true) : 1 ≤ xs.length ∧ xs.length ≤ 16 ∧ xs.all (fun n => inB n 0 1000000) = true := by
  unfold wOk at h
  simp only [Bool.and_eq_true, decide_eq_true_eq] at h
  exact ⟨h.1.1, h.1.2, h.2⟩

set_option maxHeartbeats 1000000 in
theorem areWeights_any (v : Value) (xs : List Int) (w : World) (hv : SlR w v (xs.map (Value.int .i64))) :
    Calls Try.prog 54 #[v] w fun e w' => e = .returned (.bool (wOk xs)) ∧ w = w' := by
  obtain ⟨a, n, c, rfl, hnl, hnc, hcm, hcell⟩ := SlR.opened 0 hv
  unfold maxLen at hcm
  have hn9 : n ≤ 9223372036854775807 := by omega
  have HV : Hid (wOk xs = (decide (1 ≤ n) && decide (n ≤ 16) && xs.all (fun n => inB n 0 1000000))) := by
    subst hnl; exact rfl
  clear hnl hcell hcm hnc
  by_cases h1 : 1 ≤ n
  · by_cases h2 : n ≤ 16
    · generalize ht : xs.all (fun n => inB n 0 1000000) = t at HV
      have HT := Lib.hid ht
      clear ht
      go_enter Try.func54, Try.ntmps54
      go_wp2_with (go_at_call 38; refine (areWithin_any _ xs 0 1000000 _ hv).mono ?_; rw [HT.out]; rintro e w' ⟨rfl, rfl⟩)
      go_ret
      exact ⟨ret_bool (by rw [HV.out]; simp [h1, h2]), rfl⟩
    · have h2' : ¬ ((n : Int) ≤ 16) := by omega
      go_enter Try.func54, Try.ntmps54
      go_wp2
      go_ret
      exact ⟨ret_bool (by rw [HV.out]; simp; intro _ _; omega), rfl⟩
  · have h1' : ¬ ((1 : Int) ≤ (n : Int)) := by omega
    go_enter Try.func54, Try.ntmps54
    go_wp2
    go_ret
    exact ⟨ret_bool (by rw [HV.out]; simp; intro _; omega), rfl⟩

set_option maxHeartbeats 1000000 in
theorem l04Weights_any (v : Value) (xs : List Int) (w : World) (hv : SlR w v (xs.map (Value.int .i64))) :
    Calls Try.prog 53 #[v] w fun e w' => e = .returned (.bool (wOk xs)) ∧ w = w' := by
  obtain ⟨a, n, c, rfl, hnl, hnc, hcm, hcell⟩ := SlR.opened 0 hv
  unfold maxLen at hcm
  have hn9 : n ≤ 9223372036854775807 := by omega
  have HV : Hid (wOk xs = (decide (1 ≤ n) && decide (n ≤ 16) && xs.all (fun n => inB n 0 1000000))) := by
    subst hnl; exact rfl
  have HN := Lib.hid hnl
  have HC := Lib.hid hcell
  clear hnl hcell hcm hnc
  go_enter Try.func53, Try.ntmps53
  go_wp2
  go_loop [3] (fun i => ∃ k : Nat, k ≤ n ∧ i = .int .i64 k ∧ (xs.take k).all (fun n => inB n 0 1000000) = true) (fun i => n - (intOf i).toNat)
  case atStart => exact ⟨0, Nat.zero_le _, rfl, rfl⟩
  case round =>
    obtain ⟨k, hk, rfl, hpre⟩ := hrel
    have HP := Lib.hid hpre
    clear hpre
    by_cases hlt : k < n
    · obtain ⟨b, off, rfl, hc, hbl⟩ := HC.out k hlt
      rw [List.getD_eq_getElem?_getD] at hc
      generalize hb : inB (xs[k]?.getD 0) 0 1000000 = t
      have HB := Lib.hid hb
      clear hb
      cases t
      · go_wp2_with (go_at_call 56; refine (l00In_any _ _ _ _).mono ?_; rw [HB.out]; rintro e w' ⟨rfl, rfl⟩)
        go_ret
        exact ⟨ret_bool (by rw [HV.out, all_false_of xs _ k 0 (by rw [HN.out]; exact hlt) HB.out]; simp), rfl⟩
      · go_wp2_with (go_at_call 56; refine (l00In_any _ _ _ _).mono ?_; rw [HB.out]; rintro e w' ⟨rfl, rfl⟩)
        go_round
        case rel => exact ⟨k + 1, by omega, by go_num, by rw [all_take_succ xs _ k 0 (by rw [HN.out]; exact hlt), HP.out, HB.out]; rfl⟩
        case measure => simp [intOf]; omega
    · obtain rfl : n = k := by omega
      have HA : Hid (xs.all (fun n => inB n 0 1000000) = true) := by
        have h := HP.out; rw [List.take_of_length_le (by rw [HN.out]; exact Nat.le_refl _)] at h; exact h
      by_cases h1 : 1 ≤ n
      · by_cases h2 : n ≤ 16
        · go_wp2
          go_ret
          exact ⟨ret_bool (by rw [HV.out, HA.out]; simp [h1, h2]; omega), rfl⟩
        · have h2' : ¬ ((n : Int) ≤ 16) := by omega
          go_wp2
          go_ret
          exact ⟨ret_bool (by rw [HV.out, HA.out]; simp; intro _; omega), rfl⟩
      · have h1' : ¬ ((1 : Int) ≤ (n : Int)) := by omega
        go_wp2
        go_ret
        exact ⟨ret_bool (by rw [HV.out, HA.out]; simp; intro _; omega), rfl⟩

/-- The first k products, added up. -/
def dotK (ws ls : List Int) (k : Nat) : Int := ((List.range k).map fun i => ws[i]?.getD 0 * ls[i]?.getD 0).sum
theorem dotK_succ (ws ls : List Int) (k : Nat) : dotK ws ls (k + 1) = dotK ws ls k + ws[k]?.getD 0 * ls[k]?.getD 0 := by
  simp [dotK, List.range_succ]
theorem inB_get {xs : List Int} {lo hi : Int} (h : xs.all (fun n => inB n lo hi) = true) {k : Nat} (hk : k < xs.length) : lo ≤ xs[k]?.getD 0 ∧ xs[k]?.getD 0 ≤ hi := by
  rw [List.getElem?_eq_getElem hk]; exact inB_true (List.all_eq_true.1 h _ (List.getElem_mem hk))
theorem mul_bd {a b A B : Int} (h1 : 0 ≤ a) (h2 : a ≤ A) (h3 : 0 ≤ b) (h4 : b ≤ B) : 0 ≤ a * b ∧ a * b ≤ A * B :=
  ⟨Int.mul_nonneg h1 h3, Int.mul_le_mul h2 h4 h3 (Int.le_trans h1 h2)⟩
theorem dotK_bd (ws ls : List Int) (hw : ws.all (fun n => inB n 0 1000000) = true) (hl : ls.all (fun n => inB n 1 32) = true) : ∀ k, k ≤ ws.length → k ≤ ls.length → 0 ≤ dotK ws ls k ∧ dotK ws ls k ≤ 32000000 * k
  | 0, _, _ => by simp [dotK]
  | k + 1, h1, h2 => by
    obtain ⟨i1, i2⟩ := dotK_bd ws ls hw hl k (by omega) (by omega)
    obtain ⟨a1, a2⟩ := inB_get hw (k := k) (by omega)
    obtain ⟨b1, b2⟩ := inB_get hl (k := k) (by omega)
    obtain ⟨m1, m2⟩ := mul_bd a1 a2 (show (0 : Int) ≤ _ by omega) b2
    rw [dotK_succ]
    omega
def out_TotalLong (ls ws : List Int) : Int × Bool := if validC ls && wOk ws && decide (ws.length = ls.length) then (dotK ws ls ws.length, true) else (0, false)

set_option maxHeartbeats 2000000 in
theorem impl_TotalLong (w : World) (v : Value) (ls : List Int) (hv : SlR w v (ls.map (Value.int .i64))) (_ : ∀ x ∈ ls, I64 x) (_ : ls.length ≤ 1048576) (u : Value) (ws : List Int) (hu : SlR w u (ws.map (Value.int .i64))) (_ : ∀ x ∈ ws, I64 x) (_ : ws.length ≤ 1048576) :
    Calls Try.prog 31 #[.agg #[v], u] w fun e w' => e = .returned (.tuple #[.int .i64 (out_TotalLong ls ws).1, .bool (out_TotalLong ls ws).2]) ∧ Below w.heap.size w w' := by
  have hb0 : Below w.heap.size w (w.alloc (.cells #[v] 27)) := by go_grown
  have hv1 := hv.below hb0
  have hu1 := hu.below hb0
  have hc : (w.alloc (.cells #[v] 27)).cell? ⟨w.heap.size, 0, none⟩ = some v := by simp
  have HB := Lib.hid hb0
  have HC := Lib.hid hc
  clear hb0 hc
  generalize ht : validC ls = t
  have HT := Lib.hid ht
  cases t
  · rw [show out_TotalLong ls ws = (0, false) by simp [out_TotalLong, ht]]
    clear ht
    go_enter Try.func31, Try.ntmps31
    go_wp2_with (go_at_call 16; refine (implValidCode_any _ ls _ hv1).mono ?_; rw [HT.out]; rintro e w1 ⟨rfl, hb⟩)
    go_ret2
    exact ⟨rfl, HB.out.trans (hb.mono (by simp))⟩
  · generalize ht2 : wOk ws = t2
    have HT2 := Lib.hid ht2
    cases t2
    · rw [show out_TotalLong ls ws = (0, false) by simp [out_TotalLong, ht2]]
      clear ht ht2
      go_enter Try.func31, Try.ntmps31
      go_wp2_with (first | (go_at_call 16; refine (implValidCode_any _ ls _ hv1).mono ?_; rw [HT.out]; rintro e w1 ⟨rfl, hb⟩; have hu2 := hu1.below hb) | (go_at_call 54; refine (areWeights_any _ ws _ hu2).mono ?_; rw [HT2.out]; rintro e w' ⟨rfl, rfl⟩))
      go_ret2
      exact ⟨rfl, HB.out.trans (hb.mono (by simp))⟩
    · obtain ⟨a, n, c, rfl, hnl, hnc, hcm, hcell⟩ := SlR.opened 0 hv
      obtain ⟨a', n', c', rfl, hnl', hnc', hcm', hcell'⟩ := SlR.opened 0 hu
      obtain ⟨_, p2, p3, _⟩ := validC_parts ht
      obtain ⟨q1, q2, q3⟩ := wOk_parts ht2
      have hn16 : n ≤ 16 := by omega
      have hn16' : n' ≤ 16 := by omega
      have HN := Lib.hid hnl
      have HN' := Lib.hid hnl'
      have HP := Lib.hid p3
      have HQ := Lib.hid q3
      have ho : out_TotalLong ls ws = if n' = n then (dotK ws ls n', true) else (0, false) := by simp [out_TotalLong, ht, ht2, hnl, hnl']
      rw [ho]
      clear ho
      clear ht ht2 p2 p3 q1 q2 q3 hnl hnl' hcell hcell' hcm hcm' hnc hnc'
      by_cases he : n' = n
      · rw [if_pos he]
        subst he
        have htest : ((n' : Int) != (n' : Int)) = false := by simp
        go_enter Try.func31, Try.ntmps31
        go_wp2_with (first | (go_at_call 16; refine (implValidCode_any _ ls _ hv1).mono ?_; rw [HT.out]; rintro e w1 ⟨rfl, hb⟩; have hu2 := hu1.below hb; have hv2 := hv1.below hb; have hc1 := cell_step HC.out hb) | (go_at_call 54; refine (areWeights_any _ ws _ hu2).mono ?_; rw [HT2.out]; rintro e w' ⟨rfl, rfl⟩))
        go_loop [6, 27] (fun s i => ∃ k : Nat, k ≤ n' ∧ i = .int .i64 k ∧ s = .int .i64 (dotK ws ls k)) (fun _ i => n' - (intOf i).toNat)
        case atStart => exact ⟨0, Nat.zero_le _, rfl, rfl⟩
        case round =>
          obtain ⟨k, hk, rfl, rfl⟩ := hrel
          by_cases hlt : k < n'
          · obtain ⟨a2, n2, c2, e2, hn2, _, _, hcell2⟩ := SlR.opened 0 hv2
            obtain ⟨a3, n3, c3, e3, hn3, _, _, hcell3⟩ := SlR.opened 0 hu2
            simp only [Value.slice.injEq] at e2 e3
            obtain ⟨rfl, rfl, rfl⟩ := e2
            obtain ⟨rfl, _, rfl⟩ := e3
            obtain ⟨b, off, rfl, hcx, hbl⟩ := hcell2 k hlt
            obtain ⟨b', off', rfl, hcy, hbl'⟩ := hcell3 k (by have := HN'.out; omega)
            rw [List.getD_eq_getElem?_getD] at hcx hcy
            obtain ⟨d1, d2⟩ := dotK_bd ws ls HQ.out HP.out k (by rw [HN'.out]; exact hk) (by rw [HN.out]; exact hk)
            obtain ⟨e1, e2⟩ := inB_get HQ.out (k := k) (by rw [HN'.out]; exact hlt)
            obtain ⟨f1, f2⟩ := inB_get HP.out (k := k) (by rw [HN.out]; exact hlt)
            obtain ⟨g1, g2⟩ := mul_bd e1 e2 (show (0 : Int) ≤ _ by omega) f2
            have HS : Hid (dotK ws ls (k + 1) = dotK ws ls k + ws[k]?.getD 0 * ls[k]?.getD 0) := dotK_succ ws ls k
            generalize dotK ws ls k = s at *
            generalize ws[k]?.getD 0 = x at *
            generalize ls[k]?.getD 0 = y at *
            generalize hp : x * y = p at *
            have HPP := Lib.hid hp
            clear hcell2 hcell3 hn2 hn3
            go_wp2
            go_round
            case rel => exact ⟨k + 1, by omega, by go_num, by rw [HS.out]⟩
            case measure => simp [intOf]; omega
          · obtain rfl : n' = k := by omega
            go_wp2
            go_ret2
            exact ⟨rfl, HB.out.trans (hb.mono (by simp))⟩
      · rw [if_neg he]
        have htest : ((n' : Int) != (n : Int)) = true := by rw [bne_iff_ne]; omega
        clear he
        go_enter Try.func31, Try.ntmps31
        go_wp2_with (first | (go_at_call 16; refine (implValidCode_any _ ls _ hv1).mono ?_; rw [HT.out]; rintro e w1 ⟨rfl, hb⟩; have hu2 := hu1.below hb; have hv2 := hv1.below hb; have hc1 := cell_step HC.out hb) | (go_at_call 54; refine (areWeights_any _ ws _ hu2).mono ?_; rw [HT2.out]; rintro e w' ⟨rfl, rfl⟩))
        go_ret2
        exact ⟨rfl, HB.out.trans (hb.mono (by simp))⟩

set_option maxHeartbeats 2000000 in
theorem spec_TotalLong (w : World) (v : Value) (ls : List Int) (hv : SlR w v (ls.map (Value.int .i64))) (_ : ∀ x ∈ ls, I64 x) (_ : ls.length ≤ 1048576) (u : Value) (ws : List Int) (hu : SlR w u (ws.map (Value.int .i64))) (_ : ∀ x ∈ ws, I64 x) (_ : ws.length ≤ 1048576) :
    Calls Try.prog 30 #[.agg #[v], u] w fun e w' => e = .returned (.tuple #[.int .i64 (out_TotalLong ls ws).1, .bool (out_TotalLong ls ws).2]) ∧ Below w.heap.size w w' := by
  have hb0 : Below w.heap.size w (w.alloc (.cells #[v] 27)) := by go_grown
  have hv1 := hv.below hb0
  have hu1 := hu.below hb0
  have hc : (w.alloc (.cells #[v] 27)).cell? ⟨w.heap.size, 0, none⟩ = some v := by simp
  have HB := Lib.hid hb0
  have HC := Lib.hid hc
  clear hb0 hc
  generalize ht : validC ls = t
  have HT := Lib.hid ht
  cases t
  · rw [show out_TotalLong ls ws = (0, false) by simp [out_TotalLong, ht]]
    clear ht
    go_enter Try.func30, Try.ntmps30
    go_wp2_with (go_at_call 37; refine (l04Is_any _ _ ls _ HC.out hv1).mono ?_; rw [HT.out]; rintro e w1 ⟨rfl, hq⟩; have hb := hq.keep)
    go_ret2
    exact ⟨rfl, HB.out.trans (hb.mono (by simp))⟩
  · generalize ht2 : wOk ws = t2
    have HT2 := Lib.hid ht2
    cases t2
    · rw [show out_TotalLong ls ws = (0, false) by simp [out_TotalLong, ht2]]
      clear ht ht2
      go_enter Try.func30, Try.ntmps30
      go_wp2_with (first | (go_at_call 37; refine (l04Is_any _ _ ls _ HC.out hv1).mono ?_; rw [HT.out]; rintro e w1 ⟨rfl, hq⟩; have hb := hq.keep; have hu2 := hu1.below hb) | (go_at_call 53; refine (l04Weights_any _ ws _ hu2).mono ?_; rw [HT2.out]; rintro e w' ⟨rfl, rfl⟩))
      go_ret2
      exact ⟨rfl, HB.out.trans (hb.mono (by simp))⟩
    · obtain ⟨a, n, c, rfl, hnl, hnc, hcm, hcell⟩ := SlR.opened 0 hv
      obtain ⟨a', n', c', rfl, hnl', hnc', hcm', hcell'⟩ := SlR.opened 0 hu
      obtain ⟨_, p2, p3, _⟩ := validC_parts ht
      obtain ⟨q1, q2, q3⟩ := wOk_parts ht2
      have hn16 : n ≤ 16 := by omega
      have hn16' : n' ≤ 16 := by omega
      have HN := Lib.hid hnl
      have HN' := Lib.hid hnl'
      have HP := Lib.hid p3
      have HQ := Lib.hid q3
      have ho : out_TotalLong ls ws = if n' = n then (dotK ws ls n', true) else (0, false) := by simp [out_TotalLong, ht, ht2, hnl, hnl']
      rw [ho]
      clear ho
      clear ht ht2 p2 p3 q1 q2 q3 hnl hnl' hcell hcell' hcm hcm' hnc hnc'
      by_cases he : n' = n
      · rw [if_pos he]
        subst he
        have htest : ((n' : Int) != (n' : Int)) = false := by simp
        go_enter Try.func30, Try.ntmps30
        go_wp2_with (first | (go_at_call 37; refine (l04Is_any _ _ ls _ HC.out hv1).mono ?_; rw [HT.out]; rintro e w1 ⟨rfl, hq⟩; have hb := hq.keep; have hu2 := hu1.below hb; have hv2 := hv1.below hb; have hc1 := cell_step HC.out hb) | (go_at_call 53; refine (l04Weights_any _ ws _ hu2).mono ?_; rw [HT2.out]; rintro e w' ⟨rfl, rfl⟩))
        go_loopw [6, 7] (fun s i wr => ∃ k : Nat, k ≤ n' ∧ i = .int .i64 k ∧ s = .int .i64 (dotK ws ls k) ∧ Qu w1 wr) (fun _ i _ => n' - (intOf i).toNat)
        case atStart => exact ⟨0, Nat.zero_le _, rfl, rfl, Qu.refl _⟩
        case round =>
          obtain ⟨k, hk, rfl, rfl, m, rfl⟩ := hrel
          by_cases hlt : k < n'
          · obtain ⟨a2, n2, c2, e2, hn2, _, _, hcell2⟩ := SlR.opened 0 hv2
            obtain ⟨a3, n3, c3, e3, hn3, _, _, hcell3⟩ := SlR.opened 0 hu2
            simp only [Value.slice.injEq] at e2 e3
            obtain ⟨rfl, rfl, rfl⟩ := e2
            obtain ⟨rfl, _, rfl⟩ := e3
            obtain ⟨b, off, rfl, hcx, hbl⟩ := hcell2 k hlt
            obtain ⟨b', off', rfl, hcy, hbl'⟩ := hcell3 k (by have := HN'.out; omega)
            rw [List.getD_eq_getElem?_getD] at hcx hcy
            obtain ⟨d1, d2⟩ := dotK_bd ws ls HQ.out HP.out k (by rw [HN'.out]; exact hk) (by rw [HN.out]; exact hk)
            obtain ⟨e1, e2⟩ := inB_get HQ.out (k := k) (by rw [HN'.out]; exact hlt)
            obtain ⟨f1, f2⟩ := inB_get HP.out (k := k) (by rw [HN.out]; exact hlt)
            obtain ⟨g1, g2⟩ := mul_bd e1 e2 (show (0 : Int) ≤ _ by omega) f2
            have HS : Hid (dotK ws ls (k + 1) = dotK ws ls k + ws[k]?.getD 0 * ls[k]?.getD 0) := dotK_succ ws ls k
            generalize dotK ws ls k = s at *
            generalize ws[k]?.getD 0 = x at *
            generalize ls[k]?.getD 0 = y at *
            generalize hp : x * y = p at *
            have HPP := Lib.hid hp
            clear hcell2 hcell3 hn2 hn3
            go_wp2
            go_quiet (fail)
            go_wp2
            go_roundw
            case rel => exact ⟨k + 1, by omega, by go_num, by rw [HS.out], _, rfl⟩
            case measure => simp [intOf]; omega
          · obtain rfl : n' = k := by omega
            go_wp2
            go_ret2
            exact ⟨rfl, HB.out.trans (below_drewN (hb.mono (by simp)) m)⟩
      · rw [if_neg he]
        have htest : ((n' : Int) != (n : Int)) = true := by rw [bne_iff_ne]; omega
        clear he
        go_enter Try.func30, Try.ntmps30
        go_wp2_with (first | (go_at_call 37; refine (l04Is_any _ _ ls _ HC.out hv1).mono ?_; rw [HT.out]; rintro e w1 ⟨rfl, hq⟩; have hb := hq.keep; have hu2 := hu1.below hb; have hv2 := hv1.below hb; have hc1 := cell_step HC.out hb) | (go_at_call 53; refine (l04Weights_any _ ws _ hu2).mono ?_; rw [HT2.out]; rintro e w' ⟨rfl, rfl⟩))
        go_ret2
        exact ⟨rfl, HB.out.trans (hb.mono (by simp))⟩

end Go.Proofs.Ythpajdmiakhhaaa
