/- Whether two lists are rows of the same length without zeros. -/
import Derived.Test.YtmocfnpbofeiiaaMCct
import Derived.Test.YtmocfnpbofeiiaaMSpr
namespace Go.Proofs.Ytmocfnpbofeiiaa
set_option linter.unusedSimpArgs false
set_option linter.unusedVariables false
open Go.RowKit

def zB (x : Nat) : Bool := decide (x % 2147483648 = 0)
def abvB (xs ys : List Nat) : Bool := twB xs ys && !(xs ++ ys).any zB
theorem any_take_succ {α : Type} (l : List α) (p : α → Bool) (k : Nat) (d : α) (h : k < l.length) : (l.take (k + 1)).any p = ((l.take k).any p || p (l[k]?.getD d)) := by
  rw [List.take_add_one, List.any_append, List.getElem?_eq_getElem h]; simp
theorem any_true_of {α : Type} (l : List α) (p : α → Bool) (k : Nat) (d : α) (h : k < l.length) (hp : p (l[k]?.getD d) = true) : l.any p = true := by
  rw [List.getElem?_eq_getElem h] at hp
  exact List.any_eq_true.2 ⟨_, List.getElem_mem h, hp⟩
theorem order_z {x : Nat} (h : Ch x) : FloatKind.f32.format.order x 0 = some (if zB x then .eq else .gt) := by
  have := order_p0 h.pn
  unfold zB
  by_cases h0 : x % 2147483648 = 0
  · rw [if_pos h0] at this; rw [decide_eq_true h0]; exact this
  · rw [if_neg h0] at this; rw [decide_eq_false h0]; exact this
theorem abvB_abv {xs ys : List Nat} (h : abvB xs ys = true) : twB xs ys = true ∧ Abv xs ∧ Abv ys ∧ ys.length = xs.length ∧ xs.length ≤ 32 := by
  unfold abvB at h
  rw [Bool.and_eq_true, Bool.not_eq_true'] at h
  obtain ⟨h1, h2⟩ := h
  obtain ⟨hx, hy, he⟩ := twB_split h1
  obtain ⟨a1, a2, a3⟩ := rowB_one hx
  obtain ⟨b1, b2, b3⟩ := rowB_one hy
  have key : ∀ zs : List Nat, oneB zs = true → (∀ x ∈ zs, x ∈ xs ++ ys) → Abv zs := by
    intro zs ho hm x hz
    have hc := oneB_ch ho x hz
    have hl := (one_el ho x hz).2
    have hn : zB x = false := by
      cases hq : zB x
      · rfl
      · exact absurd (List.any_eq_true.2 ⟨x, hm x hz, hq⟩) (by rw [h2]; decide)
    unfold zB at hn
    have hn := of_decide_eq_false hn
    unfold Ch at hc
    have : W2 1 = 1073741824 := by decide
    rw [this] at hl
    omega
  exact ⟨h1, key xs a3 (fun x h => List.mem_append_left _ h), key ys b3 (fun x h => List.mem_append_right _ h), he, a2⟩

set_option maxHeartbeats 400000 in
theorem isZero_any (x : Nat) (w : World) (h : Ch x) : Calls Try.prog 111 #[.float .f32 x] w fun e w' => e = .returned (.bool (zB x)) ∧ w = w' := by
  have ho := order_z h
  clear h
  cases hz : zB x
  all_goals
    rw [hz] at ho
    simp only [Bool.false_eq_true, if_false, if_true] at ho
    clear hz
    go_enter Try.func111, Try.ntmps111
    go_wp2
    go_ret
    exact ⟨rfl, rfl⟩

set_option maxHeartbeats 1000000 in
theorem indexZero_any (v : Value) (xs : List Nat) (w : World) (hv : SlR w v (xs.map (Value.float .f32))) (hc : ∀ x ∈ xs, Ch x) :
    Calls Try.prog 134 #[v, .func (.func 111) #[] #[]] w fun e w' => (∃ r : Int, e = .returned (.int .i64 r) ∧ decide (0 ≤ r) = xs.any zB) ∧ w = w' := by
  obtain ⟨a, n, c, rfl, hnl, hnc, hcm, hcell⟩ := SlR.opened 0 hv
  unfold maxLen at hcm
  have hn9 : n ≤ 9223372036854775807 := by omega
  have HN := Lib.hid hnl
  have HC := Lib.hid hcell
  have HH := Lib.hid hc
  clear hnl hcell hcm hnc hv hc
  go_enter Try.func134, Try.ntmps134
  go_wp2
  go_loop [8] (fun i => ∃ k : Nat, k ≤ n ∧ i = .int .i64 (k : Int) ∧ (xs.take k).any zB = false) (fun i => n - (intOf i).toNat)
  case atStart => exact ⟨0, Nat.zero_le _, rfl, rfl⟩
  case round =>
    obtain ⟨k, hk, rfl, ha⟩ := hrel
    have HA := Lib.hid ha
    clear ha
    by_cases hlt : k < n
    · obtain ⟨b, off, rfl, hc, hbl⟩ := HC.out k hlt
      rw [List.getD_eq_getElem?_getD] at hc
      have hkl : k < xs.length := by rw [HN.out]; exact hlt
      have hz := Lib.hid (get_pn HH.out hkl)
      have HS := Lib.hid (any_take_succ xs zB k 0 hkl)
      have HT := Lib.hid (any_true_of xs zB k 0 hkl)
      clear hkl
      generalize xs[k]?.getD 0 = z at *
      cases hb : zB z
      · have HB := Lib.hid hb
        clear hb
        go_wp2_with (go_at_call 111; refine (isZero_any z _ hz.out).mono ?_; rw [HB.out]; rintro e w1 ⟨rfl, rfl⟩)
        go_round
        case rel => exact ⟨k + 1, by omega, by go_num, by rw [HS.out, HA.out, HB.out]; rfl⟩
        case measure => simp [intOf]; omega
      · have HB := Lib.hid hb
        clear hb
        go_wp2_with (go_at_call 111; refine (isZero_any z _ hz.out).mono ?_; rw [HB.out]; rintro e w1 ⟨rfl, rfl⟩)
        go_ret
        exact ⟨⟨k, rfl, by rw [HT.out HB.out]; exact decide_eq_true (by omega)⟩, rfl⟩
    · obtain rfl : n = k := by omega
      go_wp2
      go_ret
      refine ⟨⟨-1, rfl, ?_⟩, rfl⟩
      have := HA.out
      rw [← HN.out, List.take_length] at this
      rw [this]; rfl

set_option maxHeartbeats 400000 in
theorem containsZero_any (v : Value) (xs : List Nat) (w : World) (hv : SlR w v (xs.map (Value.float .f32))) (hc : ∀ x ∈ xs, Ch x) :
    Calls Try.prog 109 #[v, .func (.func 111) #[] #[]] w fun e w' => e = .returned (.bool (xs.any zB)) ∧ w = w' := by
  obtain ⟨a, n, c, rfl, -, -, -, -⟩ := SlR.opened 0 hv
  have HV := Lib.hid hv
  have HC := Lib.hid hc
  clear hv hc
  generalize ht : xs.any zB = t
  have HT := Lib.hid ht
  clear ht
  cases t
  · go_enter Try.func109, Try.ntmps109
    go_wp2_with (go_at_call 134; refine (indexZero_any _ xs _ HV.out HC.out).mono ?_; rw [HT.out]; rintro e w1 ⟨⟨r, rfl, hr⟩, rfl⟩; replace hr := of_decide_eq_false hr)
    go_ret
    exact ⟨ret_bool (decide_eq_false (by omega)), rfl⟩
  · go_enter Try.func109, Try.ntmps109
    go_wp2_with (go_at_call 134; refine (indexZero_any _ xs _ HV.out HC.out).mono ?_; rw [HT.out]; rintro e w1 ⟨⟨r, rfl, hr⟩, rfl⟩; replace hr := of_decide_eq_true hr)
    go_ret
    exact ⟨rfl, rfl⟩
theorem two_cells (W : World) (v u : Value) (T : TypeId) : (W.alloc (.cells #[v, u] T)).cell? ⟨W.heap.size, 0, none⟩ = some v ∧ (W.alloc (.cells #[v, u] T)).cell? ⟨W.heap.size, 1, none⟩ = some u := by constructor <;> go_cell

set_option maxHeartbeats 2000000 in
theorem areAbove_any (v u : Value) (xs ys : List Nat) (w : World) (hv : SlR w v (xs.map (Value.float .f32))) (hu : SlR w u (ys.map (Value.float .f32))) (hx : ∀ x ∈ xs, x < 4294967296) (hy : ∀ x ∈ ys, x < 4294967296) :
    Calls Try.prog 71 #[v, u] w fun e w' => e = .returned (.bool (abvB xs ys)) ∧ Below w.heap.size w w' := by
  have HX := Lib.hid hx
  have HY := Lib.hid hy
  obtain ⟨a1, n1, c1, he1, -, -, -, -⟩ := SlR.opened 0 hv
  obtain ⟨a2, n2, c2, he2, -, -, -, -⟩ := SlR.opened 0 hu
  cases htw : twB xs ys
  · have HT := Lib.hid htw
    have ha : abvB xs ys = false := by unfold abvB; rw [htw]; rfl
    rw [ha]
    subst he1 he2
    have HV := Lib.hid hv
    have HU := Lib.hid hu
    clear ha htw hx hy hv hu
    go_enter Try.func71, Try.ntmps71
    go_wp2_with (go_at_call 97; refine (areRows_any _ _ xs ys _ HV.out HU.out HX.out HY.out).mono ?_; rw [HT.out]; rintro e w1 ⟨rfl, m, rfl⟩)
    go_ret
    exact ⟨rfl, below_drewN (Below.refl _ _) _⟩
  · obtain ⟨rx, ry, hl⟩ := twB_split htw
    obtain ⟨q1, q2, q3⟩ := rowB_one rx
    obtain ⟨q4, q5, q6⟩ := rowB_one ry
    have HC : Hid (∀ x ∈ xs ++ ys, Ch x) := by
      show ∀ x ∈ _, _
      intro x hx
      rcases List.mem_append.1 hx with h | h
      · exact oneB_ch q3 x h
      · exact oneB_ch q6 x h
    have HT := Lib.hid htw
    have ha : abvB xs ys = !(xs ++ ys).any zB := by unfold abvB; rw [htw]; rfl
    rw [ha]
    obtain ⟨b1, o1, c1', e1, -, -⟩ := hv.addr (by rw [List.length_map]; omega)
    obtain ⟨b2, o2, c2', e2, -, -⟩ := hu.addr (by rw [List.length_map]; omega)
    rw [List.length_map] at e1 e2
    subst e1 e2
    have HV := Lib.hid hv
    have HU := Lib.hid hu
    have cv : Hid (∀ W, Below w.heap.size w W → ∀ j u, (xs.map (Value.float .f32))[j]? = some u → W.cell? ⟨b1, o1 + j, none⟩ = some u) := by
      show ∀ W, _
      intro W hW j u hj
      obtain ⟨a, c, k1, k2, k3, k4⟩ := hv.below hW
      obtain ⟨b, off, r1, r2⟩ := k4 j u hj
      simp only [Value.slice.injEq] at k1
      obtain ⟨k1, -, -⟩ := k1
      subst k1
      simp only [Option.some.injEq, Addr.mk.injEq] at r1
      obtain ⟨rfl, rfl, -⟩ := r1
      exact r2
    have cu : Hid (∀ W, Below w.heap.size w W → ∀ j u, (ys.map (Value.float .f32))[j]? = some u → W.cell? ⟨b2, o2 + j, none⟩ = some u) := by
      show ∀ W, _
      intro W hW j u hj
      obtain ⟨a, c, k1, k2, k3, k4⟩ := hu.below hW
      obtain ⟨b, off, r1, r2⟩ := k4 j u hj
      simp only [Value.slice.injEq] at k1
      obtain ⟨k1, -, -⟩ := k1
      subst k1
      simp only [Option.some.injEq, Addr.mk.injEq] at r1
      obtain ⟨rfl, rfl, -⟩ := r1
      exact r2
    obtain ⟨zs, hzs⟩ : ∃ zs, zs = xs ++ ys := ⟨_, rfl⟩
    obtain ⟨N, hN⟩ : ∃ N, N = zs.length := ⟨_, rfl⟩
    rw [← hzs] at HC ⊢
    have CC : Hid (∀ W : World, Below w.heap.size w W → Calls Try.prog 110 #[.slice (some ⟨W.heap.size, 0, none⟩) 2 2] (W.alloc (.cells #[.slice (some ⟨b1, o1, none⟩) xs.length c1', .slice (some ⟨b2, o2, none⟩) ys.length c2'] 25)) (RetSl (W.alloc (.cells #[.slice (some ⟨b1, o1, none⟩) xs.length c1', .slice (some ⟨b2, o2, none⟩) ys.length c2'] 25)) 32 N (zs.map (Value.float .f32)) (fun v => v))) := by
      show ∀ W, _
      intro W hq
      have h := concatF_any W.heap.size b1 o1 c1' b2 o2 c2' xs ys _ (two_cells W _ _ 25).1 (two_cells W _ _ _).2 (cv.out _ (hq.alloc hq.size _)) (cu.out _ (hq.alloc hq.size _)) q1 (by omega) (by omega)
      rw [← hzs, ← hN] at h
      exact h
    have CZ : Hid (∀ (W : World) (v : Value), SlR W v (zs.map (Value.float .f32)) → Calls Try.prog 109 #[v, .func (.func 111) #[] #[]] W fun e w' => e = .returned (.bool (zs.any zB)) ∧ W = w') := by
      show ∀ W, _
      exact fun W v h => containsZero_any v zs W h HC.out
    clear hzs hN cv cu HC hl q1 q2 q4 q5
    clear he1 he2 ha htw hx hy hv hu rx ry q3 q6
    cases hz : zs.any zB
    all_goals
      have HZ := Lib.hid hz
      clear hz
      go_enter Try.func71, Try.ntmps71
      go_wp2_with (first
        | (go_at_call 109; refine (CZ.out _ _ (SlR.own ho)).mono ?_; rw [HZ.out]; rintro e w3 ⟨rfl, rfl⟩)
        | (go_at_call 110; refine (CC.out w1 hq1).mono ?_; rintro e w2 ⟨a, c, rfl, ho, hb⟩; have hbF := Lib.hid (show Below w.heap.size w w2 from (hq1.alloc hq1.size _).trans (hb.mono (by simp only [World.size_alloc]; have := hq1.size; omega))))
        | (go_at_call 97; refine (areRows_any _ _ xs ys _ HV.out HU.out HX.out HY.out).mono ?_; rw [HT.out]; rintro e w1 ⟨rfl, hq⟩; have hq1 := hq.keep))
      go_ret
      exact ⟨rfl, hbF.out⟩

end Go.Proofs.Ytmocfnpbofeiiaa
