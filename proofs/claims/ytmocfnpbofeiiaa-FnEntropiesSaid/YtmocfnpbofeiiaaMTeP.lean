/- Whether two lists are rows of the same length without zeros. -/
import Derived.Test.YtmocfnpbofeiiaaMCct
import Derived.Test.YtmocfnpbofeiiaaMSpo
namespace Go.Proofs.Ytmocfnpbofeiiaa
set_option linter.unusedSimpArgs false
set_option linter.unusedVariables false
open Go.RowKit

def zB (x : Nat) : Bool := decide (x % 2147483648 = 0)
def abvB (xs ys : List Nat) : Bool := twB xs ys && !(xs ++ ys).any zB
theorem any_take_succ {α : Type} (l : List α) (p : α → Bool) (k : Nat) (d : α) (h : k < l.length) : (l.take (k + 1)).any p = ((l.take k).any p || p (l[k]?.getD d)) := by
  rw [List.take_add_one, List.any_append, List.getElem?_eq_getElem h]; simp
theorem any_true_of {α : Type} (l : List α) (p : α → Bool) (k : Nat) (d : α) (h : k < l.length) (hp : p (l[k]?.getD d) = true) : l.any p = true := by
  rw [List.getElem?_eq_getElem h] at hp
  exact List.any_eq_true.2 ⟨_, List.getElem_mem h, hp⟩
theorem order_z {x : Nat} (h : Ch x) : FloatKind.f32.format.order x 0 = some (if zB x then .eq else .gt) := by
  have := order_p0 h.pn
  unfold zB
  by_cases h0 : x % 2147483648 = 0
  · rw [if_pos h0] at this; rw [decide_eq_true h0]; exact this
  · rw [if_neg h0] at this; rw [decide_eq_false h0]; exact this
theorem abvB_abv {xs ys : List Nat} (h : abvB xs ys = true) : twB xs ys = true ∧ Abv xs ∧ Abv ys ∧ ys.length = xs.length ∧ xs.length ≤ 32 := by
  unfold abvB at h
  rw [Bool.and_eq_true, Bool.not_eq_true'] at h
  obtain ⟨h1, h2⟩ := h
  obtain ⟨hx, hy, he⟩ := twB_split h1
  obtain ⟨a1, a2, a3⟩ := rowB_one hx
  obtain ⟨b1, b2, b3⟩ := rowB_one hy
  have key : ∀ zs : List Nat, oneB zs = true → (∀ x ∈ zs, x ∈ xs ++ ys) → Abv zs := by
    intro zs ho hm x hz
    have hc := oneB_ch ho x hz
    have hl := (one_el ho x hz).2
    have hn : zB x = false := by
      cases hq : zB x
      · rfl
      · exact absurd (List.any_eq_true.2 ⟨x, hm x hz, hq⟩) (by rw [h2]; decide)
    unfold zB at hn
    have hn := of_decide_eq_false hn
    unfold Ch at hc
    have : W2 1 = 1073741824 := by decide
    rw [this] at hl
    omega
  exact ⟨h1, key xs a3 (fun x h => List.mem_append_left _ h), key ys b3 (fun x h => List.mem_append_right _ h), he, a2⟩

set_option maxHeartbeats 400000 in
theorem isZero_any (x : Nat) (w : World) (h : Ch x) : Calls Try.prog 111 #[.float .f32 x] w fun e w' => e = .returned (.bool (zB x)) ∧ w = w' := by
  have ho := order_z h
  clear h
  cases hz : zB x
  all_goals
    rw [hz] at ho
    simp only [Bool.false_eq_true, if_false, if_true] at ho
    clear hz
    go_enter Try.func111, Try.ntmps111
    go_wp2
    go_ret
    exact ⟨rfl, rfl⟩

set_option maxHeartbeats 1000000 in
theorem indexZero_any (v : Value) (xs : List Nat) (w : World) (hv : SlR w v (xs.map (Value.float .f32))) (hc : ∀ x ∈ xs, Ch x) :
    Calls Try.prog 134 #[v, .func (.func 111) #[] #[]] w fun e w' => (∃ r : Int, e = .returned (.int .i64 r) ∧ decide (0 ≤ r) = xs.any zB) ∧ w = w' := by
  obtain ⟨a, n, c, rfl, hnl, hnc, hcm, hcell⟩ := SlR.opened 0 hv
  unfold maxLen at hcm
  have hn9 : n ≤ 9223372036854775807 := by omega
  have HN := Lib.hid hnl
  have HC := Lib.hid hcell
  have HH := Lib.hid hc
  clear hnl hcell hcm hnc hv hc
  go_enter Try.func134, Try.ntmps134
  go_wp2
  go_loop [8] (fun i => ∃ k : Nat, k ≤ n ∧ i = .int .i64 (k : Int) ∧ (xs.take k).any zB = false) (fun i => n - (intOf i).toNat)
  case atStart => exact ⟨0, Nat.zero_le _, rfl, rfl⟩
  case round =>
    obtain ⟨k, hk, rfl, ha⟩ := hrel
    have HA := Lib.hid ha
    clear ha
    by_cases hlt : k < n
    · obtain ⟨b, off, rfl, hc, hbl⟩ := HC.out k hlt
      rw [List.getD_eq_getElem?_getD] at hc
      have hkl : k < xs.length := by rw [HN.out]; exact hlt
      have hz := Lib.hid (get_pn HH.out hkl)
      have HS := Lib.hid (any_take_succ xs zB k 0 hkl)
      have HT := Lib.hid (any_true_of xs zB k 0 hkl)
      clear hkl
      generalize xs[k]?.getD 0 = z at *
      cases hb : zB z
      · have HB := Lib.hid hb
        clear hb
        go_wp2_with (go_at_call 111; refine (isZero_any z _ hz.out).mono ?_; rw [HB.out]; rintro e w1 ⟨rfl, rfl⟩)
        go_round
        case rel => exact ⟨k + 1, by omega, by go_num, by rw [HS.out, HA.out, HB.out]; rfl⟩
        case measure => simp [intOf]; omega
      · have HB := Lib.hid hb
        clear hb
        go_wp2_with (go_at_call 111; refine (isZero_any z _ hz.out).mono ?_; rw [HB.out]; rintro e w1 ⟨rfl, rfl⟩)
        go_ret
        exact ⟨⟨k, rfl, by rw [HT.out HB.out]; exact decide_eq_true (by omega)⟩, rfl⟩
    · obtain rfl : n = k := by omega
      go_wp2
      go_ret
      refine ⟨⟨-1, rfl, ?_⟩, rfl⟩
      have := HA.out
      rw [← HN.out, List.take_length] at this
      rw [this]; rfl

set_option maxHeartbeats 400000 in
theorem containsZero_any (v : Value) (xs : List Nat) (w : World) (hv : SlR w v (xs.map (Value.float .f32))) (hc : ∀ x ∈ xs, Ch x) :
    Calls Try.prog 109 #[v, .func (.func 111) #[] #[]] w fun e w' => e = .returned (.bool (xs.any zB)) ∧ w = w' := by
  obtain ⟨a, n, c, rfl, -, -, -, -⟩ := SlR.opened 0 hv
  have HV := Lib.hid hv
  have HC := Lib.hid hc
  clear hv hc
  generalize ht : xs.any zB = t
  have HT := Lib.hid ht
  clear ht
  cases t
  · go_enter Try.func109, Try.ntmps109
    go_wp2_with (go_at_call 134; refine (indexZero_any _ xs _ HV.out HC.out).mono ?_; rw [HT.out]; rintro e w1 ⟨⟨r, rfl, hr⟩, rfl⟩; replace hr := of_decide_eq_false hr)
    go_ret
    exact ⟨ret_bool (decide_eq_false (by omega)), rfl⟩
  · go_enter Try.func109, Try.ntmps109
    go_wp2_with (go_at_call 134; refine (indexZero_any _ xs _ HV.out HC.out).mono ?_; rw [HT.out]; rintro e w1 ⟨⟨r, rfl, hr⟩, rfl⟩; replace hr := of_decide_eq_true hr)
    go_ret
    exact ⟨rfl, rfl⟩
theorem two_cells (W : World) (v u : Value) (T : TypeId) : (W.alloc (.cells #[v, u] T)).cell? ⟨W.heap.size, 0, none⟩ = some v ∧ (W.alloc (.cells #[v, u] T)).cell? ⟨W.heap.size, 1, none⟩ = some u := by constructor <;> go_cell

set_option maxHeartbeats 2000000 in
theorem areAbove_any (v u : Value) (xs ys : List Nat) (w : World) (hv : SlR w v (xs.map (Value.float .f32))) (hu : SlR w u (ys.map (Value.float .f32))) (hx : ∀ x ∈ xs, x < 4294967296) (hy : ∀ x ∈ ys, x < 4294967296) :
    Calls Try.prog 71 #[v, u] w fun e w' => e = .returned (.bool (abvB xs ys)) ∧ Below w.heap.size w w' := by
  have HX := Lib.hid hx
  have HY := Lib.hid hy
  obtain ⟨a1, n1, c1, he1, -, -, -, -⟩ := SlR.opened 0 hv
  obtain ⟨a2, n2, c2, he2, -, -, -, -⟩ := SlR.opened 0 hu
  cases htw : twB xs ys
  · have HT := Lib.hid htw
    have ha : abvB xs ys = false := by unfold abvB; rw [htw]; rfl
    rw [ha]
    subst he1 he2
    have HV := Lib.hid hv
    have HU := Lib.hid hu
    clear ha htw hx hy hv hu
    go_enter Try.func71, Try.ntmps71
    go_wp2_with (go_at_call 97; refine (areRows_any _ _ xs ys _ HV.out HU.out HX.out HY.out).mono ?_; rw [HT.out]; rintro e w1 ⟨rfl, m, rfl⟩)
    go_ret
    exact ⟨rfl, below_drewN (Below.refl _ _) _⟩
  · obtain ⟨rx, ry, hl⟩ := twB_split htw
    obtain ⟨q1, q2, q3⟩ := rowB_one rx
    obtain ⟨q4, q5, q6⟩ := rowB_one ry
    have HC : Hid (∀ x ∈ xs ++ ys, Ch x) := by
      show ∀ x ∈ _, _
      intro x hx
      rcases List.mem_append.1 hx with h | h
      · exact oneB_ch q3 x h
      · exact oneB_ch q6 x h
    have HT := Lib.hid htw
    have ha : abvB xs ys = !(xs ++ ys).any zB := by unfold abvB; rw [htw]; rfl
    rw [ha]
    obtain ⟨b1, o1, c1', e1, -, -⟩ := hv.addr (by rw [List.length_map]; omega)
    obtain ⟨b2, o2, c2', e2, -, -⟩ := hu.addr (by rw [List.length_map]; omega)
    rw [List.length_map] at e1 e2
    subst e1 e2
    have HV := Lib.hid hv
    have HU := Lib.hid hu
    have cv : Hid (∀ W, Below w.heap.size w W → ∀ j u, (xs.map (Value.float .f32))[j]? = some u → W.cell? ⟨b1, o1 + j, none⟩ = some u) := by
      show ∀ W, _
      intro W hW j u hj
      obtain ⟨a, c, k1, k2, k3, k4⟩ := hv.below hW
      obtain ⟨b, off, r1, r2⟩ := k4 j u hj
      simp only [Value.slice.injEq] at k1
      obtain ⟨k1, -, -⟩ := k1
      subst k1
      simp only [Option.some.injEq, Addr.mk.injEq] at r1
      obtain ⟨rfl, rfl, -⟩ := r1
      exact r2
    have cu : Hid (∀ W, Below w.heap.size w W → ∀ j u, (ys.map (Value.float .f32))[j]? = some u → W.cell? ⟨b2, o2 + j, none⟩ = some u) := by
      show ∀ W, _
      intro W hW j u hj
      obtain ⟨a, c, k1, k2, k3, k4⟩ := hu.below hW
      obtain ⟨b, off, r1, r2⟩ := k4 j u hj
      simp only [Value.slice.injEq] at k1
      obtain ⟨k1, -, -⟩ := k1
      subst k1
      simp only [Option.some.injEq, Addr.mk.injEq] at r1
      obtain ⟨rfl, rfl, -⟩ := r1
      exact r2
    obtain ⟨zs, hzs⟩ : ∃ zs, zs = xs ++ ys := ⟨_, rfl⟩
    obtain ⟨N, hN⟩ : ∃ N, N = zs.length := ⟨_, rfl⟩
    rw [← hzs] at HC ⊢
    have CC : Hid (∀ W : World, Below w.heap.size w W → Calls Try.prog 110 #[.slice (some ⟨W.heap.size, 0, none⟩) 2 2] (W.alloc (.cells #[.slice (some ⟨b1, o1, none⟩) xs.length c1', .slice (some ⟨b2, o2, none⟩) ys.length c2'] 25)) (RetSl (W.alloc (.cells #[.slice (some ⟨b1, o1, none⟩) xs.length c1', .slice (some ⟨b2, o2, none⟩) ys.length c2'] 25)) 32 N (zs.map (Value.float .f32)) (fun v => v))) := by
      show ∀ W, _
      intro W hq
      have h := concatF_any W.heap.size b1 o1 c1' b2 o2 c2' xs ys _ (two_cells W _ _ 25).1 (two_cells W _ _ _).2 (cv.out _ (hq.alloc hq.size _)) (cu.out _ (hq.alloc hq.size _)) q1 (by omega) (by omega)
      rw [← hzs, ← hN] at h
      exact h
    have CZ : Hid (∀ (W : World) (v : Value), SlR W v (zs.map (Value.float .f32)) → Calls Try.prog 109 #[v, .func (.func 111) #[] #[]] W fun e w' => e = .returned (.bool (zs.any zB)) ∧ W = w') := by
      show ∀ W, _
      exact fun W v h => containsZero_any v zs W h HC.out
    clear hzs hN cv cu HC hl q1 q2 q4 q5
    clear he1 he2 ha htw hx hy hv hu rx ry q3 q6
    cases hz : zs.any zB
    all_goals
      have HZ := Lib.hid hz
      clear hz
      go_enter Try.func71, Try.ntmps71
      go_wp2_with (first
        | (go_at_call 109; refine (CZ.out _ _ (SlR.own ho)).mono ?_; rw [HZ.out]; rintro e w3 ⟨rfl, rfl⟩)
        | (go_at_call 110; refine (CC.out w1 hq1).mono ?_; rintro e w2 ⟨a, c, rfl, ho, hb⟩; have hbF := Lib.hid (show Below w.heap.size w w2 from (hq1.alloc hq1.size _).trans (hb.mono (by simp only [World.size_alloc]; have := hq1.size; omega))))
        | (go_at_call 97; refine (areRows_any _ _ xs ys _ HV.out HU.out HX.out HY.out).mono ?_; rw [HT.out]; rintro e w1 ⟨rfl, hq⟩; have hq1 := hq.keep))
      go_ret
      exact ⟨rfl, hbF.out⟩

end Go.Proofs.Ytmocfnpbofeiiaa

/- Errors of tests, plain: types of words, their chances, sums. -/
namespace Go.Proofs.Ytmocfnpbofeiiaa
set_option linter.unusedSimpArgs false
set_option linter.unusedVariables false
open Go.RowKit
open Ieee
/-- A count as a value. -/
def nvI (c : Nat) : Value := .int .i64 (c : Int)
/-- A row of binomials, as the loops reckon it. -/
def chs (n k : Nat) : Nat → Nat
  | 0 => 1
  | i + 1 => chs n k i * (n - k + (i + 1)) / (i + 1)
theorem chs_all : ((List.range 13).all fun n => (List.range (n + 1)).all fun k => (List.range (k + 1)).all fun i => decide (chs n k i ≤ 1000)) = true := by decide +kernel
theorem chs_le {n k i : Nat} (hn : n ≤ 12) (hk : k ≤ n) (hi : i ≤ k) : chs n k i ≤ 1000 := by
  have h := chs_all
  rw [List.all_eq_true] at h
  have h1 := h n (List.mem_range.2 (by omega))
  rw [List.all_eq_true] at h1
  have h2 := h1 k (List.mem_range.2 (by omega))
  rw [List.all_eq_true] at h2
  exact of_decide_eq_true (h2 i (List.mem_range.2 (by omega)))
def sumP (cs : List Nat) (j : Nat) : Nat := (cs.take j).sum
theorem sumP_succ (cs : List Nat) (j : Nat) (h : j < cs.length) : sumP cs (j + 1) = sumP cs j + cs[j]?.getD 0 := by
  unfold sumP; rw [List.take_succ_eq_append_getElem h, List.sum_append, List.sum_singleton, List.getElem?_eq_getElem h]; rfl
theorem sumP_le (cs : List Nat) (j : Nat) : sumP cs j ≤ cs.sum := by
  have h : sumP cs j + (cs.drop j).sum = cs.sum := by unfold sumP; rw [← List.sum_append, List.take_append_drop]
  omega
/-- The words of a type, behind j letters. -/
def wsP (cs : List Nat) : Nat → Nat
  | 0 => 1
  | j + 1 => wsP cs j * chs (sumP cs (j + 1)) (cs[j]?.getD 0) (cs[j]?.getD 0)
/-- Types whose first letter is there i times, of those the first k. -/
def inn (n L i k : Nat) : List (List Nat) := if L = 2 then (if n - i < k then [[i, n - i]] else []) else (List.range k).map fun q => [i, q, n - i - q]
def outT (n L i : Nat) : List (List Nat) := (List.range i).flatMap fun p => inn n L p (n - p + 1)
def tysL (n L : Nat) : List (List Nat) := outT n L (n + 1)
theorem outT_succ (n L i : Nat) : outT n L (i + 1) = outT n L i ++ inn n L i (n - i + 1) := by
  unfold outT; rw [List.range_succ, List.flatMap_append]; simp
theorem inn_succ (n L i k : Nat) (hk : k ≤ n - i) : inn n L i (k + 1) = inn n L i k ++ (if L = 2 then (if k = n - i then [[i, k]] else []) else [[i, k, n - i - k]]) := by
  unfold inn
  by_cases hL : L = 2
  · rw [if_pos hL, if_pos hL, if_pos hL]
    by_cases h : k = n - i
    · rw [if_pos h, if_pos (by omega), if_neg (by omega), h]; rfl
    · rw [if_neg h, if_neg (by omega), if_neg (by omega)]; rfl
  · rw [if_neg hL, if_neg hL, if_neg hL, List.range_succ, List.map_append]; rfl
theorem inn_pre (n L i k : Nat) (hk : k ≤ n - i + 1) : inn n L i k <+: inn n L i (n - i + 1) := by
  obtain ⟨d, hd⟩ : ∃ d, n - i + 1 = k + d := ⟨n - i + 1 - k, by omega⟩
  rw [hd]
  clear hk
  have : ∀ d, k + d ≤ n - i + 1 → inn n L i k <+: inn n L i (k + d) := by
    intro d
    induction d with
    | zero => intro _; exact List.prefix_refl _
    | succ d ih =>
      intro h
      have e : inn n L i (k + (d + 1)) = _ := inn_succ n L i (k + d) (by omega)
      rw [e]
      exact (ih (by omega)).trans (List.prefix_append _ _)
  exact this d (by omega)
theorem outT_pre (n L i : Nat) (hi : i ≤ n + 1) : outT n L i <+: tysL n L := by
  obtain ⟨d, hd⟩ : ∃ d, n + 1 = i + d := ⟨n + 1 - i, by omega⟩
  unfold tysL
  rw [hd]
  clear hi hd
  induction d with
  | zero => exact List.prefix_refl _
  | succ d ih =>
    have e : outT n L (i + (d + 1)) = _ := outT_succ n L (i + d)
    rw [e]
    exact ih.trans (List.prefix_append _ _)
theorem mid_pre (n L i k : Nat) (hi : i ≤ n) (hk : k ≤ n - i + 1) : outT n L i ++ inn n L i k <+: tysL n L := by
  refine List.IsPrefix.trans ?_ (outT_pre n L (i + 1) (by omega))
  rw [outT_succ]
  exact (List.prefix_append_right_inj _).2 (inn_pre n L i k hk)
/-- What is known of a type. -/
structure Ty (n L : Nat) (cs : List Nat) : Prop where
  len : cs.length = L
  sum : cs.sum = n
  ws : ∀ j, j ≤ L → wsP cs j ≤ 65536
  fl : rg single (floatOfInt .f32 ((wsP cs L : Nat) : Int)) ≤ WK .f32 16
def tyB (n L : Nat) (cs : List Nat) : Bool := decide (cs.length = L) && decide (cs.sum = n) && ((List.range (L + 1)).all fun j => decide (wsP cs j ≤ 65536)) && decide (rg single (floatOfInt .f32 ((wsP cs L : Nat) : Int)) ≤ WK .f32 16)
theorem ty_all : ((List.range 13).all fun n => [2, 3].all fun L => decide ((tysL n L).length ≤ 91) && (tysL n L).all (tyB n L)) = true := by decide +kernel
theorem ty_of {n L : Nat} (hn : n ≤ 12) (hL : L = 2 ∨ L = 3) : (tysL n L).length ≤ 91 ∧ ∀ cs ∈ tysL n L, Ty n L cs := by
  have h := ty_all
  rw [List.all_eq_true] at h
  have h1 := h n (List.mem_range.2 (by omega))
  rw [List.all_eq_true] at h1
  have h2 := h1 L (by rcases hL with rfl | rfl <;> simp)
  rw [Bool.and_eq_true, decide_eq_true_iff, List.all_eq_true] at h2
  refine ⟨h2.1, fun cs hcs => ?_⟩
  have h3 := h2.2 cs hcs
  unfold tyB at h3
  rw [Bool.and_eq_true, Bool.and_eq_true, Bool.and_eq_true, decide_eq_true_iff, decide_eq_true_iff, decide_eq_true_iff, List.all_eq_true] at h3
  exact ⟨h3.1.1.1, h3.1.1.2, fun j hj => of_decide_eq_true (h3.1.2 j (List.mem_range.2 (by omega))), h3.2⟩
theorem Ty.at {n L : Nat} {cs : List Nat} (h : Ty n L cs) {j : Nat} (hj : j < L) : sumP cs (j + 1) = sumP cs j + cs[j]?.getD 0 ∧ sumP cs (j + 1) ≤ n := by
  refine ⟨sumP_succ cs j (by rw [h.len]; exact hj), ?_⟩
  have := sumP_le cs (j + 1)
  rw [h.sum] at this; exact this
/-- A number times another one, c times. -/
def mulN (x r : Nat) : Nat → Nat
  | 0 => x
  | c + 1 => fA .mul .f32 (mulN x r c) r
def prP (row cs : List Nat) (L : Nat) : Nat → Nat
  | 0 => floatOfInt .f32 ((wsP cs L : Nat) : Int)
  | j + 1 => mulN (prP row cs L j) (row[j]?.getD 0) (cs[j]?.getD 0)
theorem row_bd {row : List Nat} (h : Abv row) {j : Nat} (hj : j < row.length) : Bd .f32 1 (row[j]?.getD 0) := by
  obtain ⟨h1, h2⟩ := h.at hj
  refine Bd.of (k := .f32) ?_
  show rg single (row[j]?.getD 0) ≤ WK .f32 1
  rw [rgs, show WK .f32 1 = 1073741824 from by decide]
  omega
theorem mulN_bd {x r e : Nat} (hx : Bd .f32 e x) (hr : Bd .f32 1 r) : ∀ c, e + c ≤ 126 → Bd .f32 (e + c) (mulN x r c) ∧ (floatBits .mul .f32 (mulN x r c) r).isSome = true
  | 0, h => ⟨hx, (bd_mul hx hr (by show e ≤ 127; omega) (by decide)).1⟩
  | c + 1, h => by
    have ih := (mulN_bd hx hr c (by omega)).1
    have h1 := (bd_mul ih hr (by show e + c ≤ 127; omega) (by decide)).2.1
    exact ⟨h1, (bd_mul h1 hr (by show e + c + 1 ≤ 127; omega) (by decide)).1⟩
theorem prP_bd {n L : Nat} {row cs : List Nat} (hT : Ty n L cs) (hn : n ≤ 12) (hr : Abv row) (hl : row.length = L) : ∀ j, j ≤ L → Bd .f32 (16 + sumP cs j) (prP row cs L j)
  | 0, _ => Bd.of (k := .f32) hT.fl
  | j + 1, h => by
    have ih := prP_bd hT hn hr hl j (by omega)
    obtain ⟨h1, h2⟩ := hT.at (j := j) (by omega)
    have := (mulN_bd ih (row_bd hr (j := j) (by omega)) (cs[j]?.getD 0) (by omega)).1
    rw [h1, ← Nat.add_assoc]
    exact this
/-- A type's chance. -/
def chF (row cs : List Nat) (L : Nat) : Nat := prP row cs L L
theorem chF_bd {n L : Nat} {row cs : List Nat} (hT : Ty n L cs) (hn : n ≤ 12) (hr : Abv row) (hl : row.length = L) : Bd .f32 28 (chF row cs L) := by
  have h := prP_bd hT hn hr hl L (Nat.le_refl _)
  have := sumP_le cs L
  rw [hT.sum] at this
  exact h.mono (by omega)
theorem foi_bd4 : ∀ c : Nat, c < 13 → rg single (floatOfInt .f32 (c : Int)) ≤ WK .f32 4 := by decide +kernel
/-- What a type's letters tell for the first row. -/
def trm (a b c : Nat) : Nat := fA .mul .f32 (floatOfInt .f32 (c : Int)) (fA .sub .f32 (enB a) (enB b))
def sfP (xs ys cs : List Nat) : Nat → Nat
  | 0 => 0
  | j + 1 => fA .add .f32 (sfP xs ys cs j) (trm (xs[j]?.getD 0) (ys[j]?.getD 0) (cs[j]?.getD 0))
theorem trm_ok {a b c : Nat} (ha : 0 < a ∧ a ≤ 1073741824) (hb : 0 < b ∧ b ≤ 1073741824) (hc : c < 13) : (floatBits .sub .f32 (enB a) (enB b)).isSome = true ∧ (floatBits .mul .f32 (floatOfInt .f32 (c : Int)) (fA .sub .f32 (enB a) (enB b))).isSome = true ∧ Bd .f32 21 (trm a b c) := by
  have h1 := (enB_bd ha.1 (by omega)).2
  have h2 := (enB_bd hb.1 (by omega)).2
  obtain ⟨s1, s2, -⟩ := bd_sub h1 h2 (by decide)
  obtain ⟨m1, m2, -⟩ := bd_mul (Bd.of (k := .f32) (foi_bd4 c hc)) s2 (by decide) (by decide)
  exact ⟨s1, m1, m2⟩
theorem bd_zero (e : Nat) : Bd .f32 e 0 := Bd.of (k := .f32) (by show rg single 0 ≤ _; rw [rgs]; exact Nat.zero_le _)
theorem sfP_bd {n L : Nat} {xs ys cs : List Nat} (hT : Ty n L cs) (hn : n ≤ 12) (hx : Abv xs) (hy : Abv ys) (h1 : xs.length = L) (h2 : ys.length = L) : ∀ j, j ≤ L → j ≤ 3 → Bd .f32 (21 + j) (sfP xs ys cs j) ∧ (j < L → (floatBits .add .f32 (sfP xs ys cs j) (trm (xs[j]?.getD 0) (ys[j]?.getD 0) (cs[j]?.getD 0))).isSome = true) := by
  have hc : ∀ j, j < L → cs[j]?.getD 0 < 13 := fun j hj => by
    obtain ⟨a, b⟩ := hT.at hj; omega
  have ht : ∀ j, j < L → Bd .f32 21 (trm (xs[j]?.getD 0) (ys[j]?.getD 0) (cs[j]?.getD 0)) := fun j hj => (trm_ok (hx.at (by omega)) (hy.at (by omega)) (hc j hj)).2.2
  intro j
  induction j with
  | zero => exact fun _ _ => ⟨bd_zero _, fun h => (bd_add (e := 21) (bd_zero _) (ht 0 h) (by decide)).1⟩
  | succ j ih =>
    intro hj h3
    have i1 := (ih (by omega) (by omega)).1
    have i2 := (bd_add i1 ((ht j (by omega)).mono (by omega)) (by show 21 + j + 1 ≤ 127; omega)).2.1
    exact ⟨i2, fun h => (bd_add i2 ((ht (j + 1) h).mono (by omega)) (by show 21 + (j + 1) + 1 ≤ 127; omega)).1⟩
/-- Not less. -/
def geF (s b : Nat) : Bool := !(FloatKind.f32.format.order s b == some .lt)
theorem ord_ex {s b : Nat} (hs : Fnt single s) (hb : Fnt single b) : FloatKind.f32.format.order s b = some .lt ∨ FloatKind.f32.format.order s b = some .eq ∨ FloatKind.f32.format.order s b = some .gt := by
  obtain ⟨o1, o2, o3⟩ := order_fin hs hb
  show Ieee.single.order s b = _ ∨ Ieee.single.order s b = _ ∨ Ieee.single.order s b = _
  by_cases h1 : sv single s < sv single b
  · exact .inl (o1.2 h1)
  · by_cases h2 : sv single s = sv single b
    · exact .inr (.inl (o2.2 h2))
    · exact .inr (.inr (o3.2 (by grind)))
/-- What is missed, and what is taken, of the types so far. -/
def teS (xs ys : List Nat) (L bar : Nat) (mt : Nat × Nat) (cs : List Nat) : Nat × Nat :=
  if geF (sfP xs ys cs L) bar then (mt.1, fA .add .f32 mt.2 (chF ys cs L)) else (fA .add .f32 mt.1 (chF xs cs L), mt.2)
def teF (xs ys : List Nat) (L bar : Nat) (l : List (List Nat)) : Nat × Nat := l.foldl (teS xs ys L bar) (0, 0)
theorem teF_snoc (xs ys : List Nat) (L bar : Nat) (l : List (List Nat)) (cs : List Nat) : teF xs ys L bar (l ++ [cs]) = teS xs ys L bar (teF xs ys L bar l) cs := by
  unfold teF; rw [List.foldl_append]; rfl
theorem teF_bd {n L bar : Nat} {xs ys : List Nat} (hn : n ≤ 12) (hx : Abv xs) (hy : Abv ys) (h1 : xs.length = L) (h2 : ys.length = L) (l : List (List Nat)) : (∀ cs ∈ l, Ty n L cs) → l.length ≤ 91 → Bd .f32 (28 + l.length) (teF xs ys L bar l).1 ∧ Bd .f32 (28 + l.length) (teF xs ys L bar l).2 := by
  have key : ∀ m, ∀ l : List (List Nat), l.length = m → (∀ cs ∈ l, Ty n L cs) → m ≤ 91 → Bd .f32 (28 + m) (teF xs ys L bar l).1 ∧ Bd .f32 (28 + m) (teF xs ys L bar l).2 := by
    intro m
    induction m with
    | zero =>
      intro l hl _ _
      obtain rfl : l = [] := List.length_eq_zero_iff.1 hl
      exact ⟨bd_zero _, bd_zero _⟩
    | succ m ih =>
      intro l hl hT hm
      obtain ⟨l', cs, rfl⟩ : ∃ l' cs, l = l' ++ [cs] := by
        have hne : l ≠ [] := by rintro rfl; cases hl
        exact ⟨l.dropLast, l.getLast hne, (List.dropLast_concat_getLast hne).symm⟩
      rw [List.length_append, List.length_singleton] at hl
      obtain ⟨i1, i2⟩ := ih l' (by omega) (fun c hc => hT c (List.mem_append_left _ hc)) (by omega)
      have hcs := hT cs (List.mem_append_right _ (List.mem_singleton.2 rfl))
      have c1 := (chF_bd hcs hn hx h1).mono (show 28 ≤ 28 + m by omega)
      have c2 := (chF_bd hcs hn hy h2).mono (show 28 ≤ 28 + m by omega)
      rw [teF_snoc]
      unfold teS
      split
      · exact ⟨i1.mono (by omega), (bd_add i2 c2 (by show 28 + m + 1 ≤ 127; omega)).2.1⟩
      · exact ⟨(bd_add i1 c1 (by show 28 + m + 1 ≤ 127; omega)).2.1, i2.mono (by omega)⟩
  exact key l.length l rfl
theorem teF_some {n L bar : Nat} {xs ys cs : List Nat} (hn : n ≤ 12) (hx : Abv xs) (hy : Abv ys) (h1 : xs.length = L) (h2 : ys.length = L) {l : List (List Nat)} (hT : ∀ cs ∈ l, Ty n L cs) (hl : l.length ≤ 91) (hcs : Ty n L cs) : (floatBits .add .f32 (teF xs ys L bar l).1 (chF xs cs L)).isSome = true ∧ (floatBits .add .f32 (teF xs ys L bar l).2 (chF ys cs L)).isSome = true := by
  obtain ⟨i1, i2⟩ := teF_bd (bar := bar) hn hx hy h1 h2 l hT hl
  exact ⟨(bd_add i1 ((chF_bd hcs hn hx h1).mono (by omega)) (by show 28 + l.length + 1 ≤ 127; omega)).1, (bd_add i2 ((chF_bd hcs hn hy h2).mono (by omega)) (by show 28 + l.length + 1 ≤ 127; omega)).1⟩
def teOk (xs ys : List Nat) (n : Int) (bar : Nat) : Bool := abvB xs ys && decide (2 ≤ xs.length) && decide (xs.length ≤ 3) && inB n 0 12 && finB bar
def out_TestErrors (xs ys : List Nat) (n : Int) (bar : Nat) : Nat × Nat × Bool :=
  if teOk xs ys n bar then ((teF xs ys xs.length bar (tysL n.toNat xs.length)).1, (teF xs ys xs.length bar (tysL n.toNat xs.length)).2, true) else (0, 0, false)

end Go.Proofs.Ytmocfnpbofeiiaa
