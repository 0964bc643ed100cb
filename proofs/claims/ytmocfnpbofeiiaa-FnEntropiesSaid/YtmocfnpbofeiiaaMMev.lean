/- Rows at least as even as others: the program. -/
import Derived.Test.YtmocfnpbofeiiaaMMevP
import Derived.Test.YtmocfnpbofeiiaaMFtw
import Derived.Test.YtmocfnpbofeiiaaMCct
namespace Go.Proofs.Ytmocfnpbofeiiaa
set_option linter.unusedSimpArgs false
set_option linter.unusedVariables false
open Go.RowKit
open Ieee

def cmpW (x y : Nat) : Int := if x % 2147483648 < y % 2147483648 then -1 else if y % 2147483648 < x % 2147483648 then 1 else 0
theorem ncmpW (f : Nat → Nat) (x y : Nat) : decide (cmpW (f y) (f x) < 0) = gtW f x y := by
  unfold gtW
  rw [decide_eq_decide]
  unfold cmpW
  split <;> (try split) <;> omega
theorem ch_nnan {x : Nat} (h : Ch x) : nanB x = false := by
  unfold nanB; unfold Ch at h; exact decide_eq_false (by omega)
theorem isNaNF_any (x : Nat) (hx : Ch x) (w : World) : Calls Try.prog 146 #[.float .f32 x] w fun e w' => e = .returned (.bool false) ∧ w = w' := by
  have ho : FloatKind.f32.format.order x x = some .eq := by
    have := order_ch hx hx
    rw [Nat.compare_eq_eq.2 rfl] at this
    exact this
  go_enter Try.func146, Try.ntmps146
  go_wp2
  go_ret
  exact ⟨rfl, rfl⟩
theorem compareF_any (x y : Nat) (hx : Ch x) (hy : Ch y) (w : World) : Calls Try.prog 132 #[.float .f32 x, .float .f32 y] w fun e w' => e = .returned (.int .i64 (cmpW x y)) ∧ w = w' := by
  have ho : FloatKind.f32.format.order x y = some (compare (x % 2147483648) (y % 2147483648)) := order_ch hx hy
  by_cases h1 : x % 2147483648 < y % 2147483648
  · have H : Hid (cmpW x y = -1) := if_pos h1
    rw [Nat.compare_eq_lt.2 h1] at ho
    clear h1
    go_enter Try.func132, Try.ntmps132
    go_wp2_with (go_at_call 146; (first | (with_reducible refine (isNaNF_any y hy _).mono ?_) | (with_reducible refine (isNaNF_any x hx _).mono ?_)); rintro e w' ⟨rfl, rfl⟩)
    go_ret
    exact ⟨ret_int H.out.symm, rfl⟩
  · by_cases h2 : y % 2147483648 < x % 2147483648
    · have H : Hid (cmpW x y = 1) := by show cmpW x y = 1; unfold cmpW; rw [if_neg h1, if_pos h2]
      rw [Nat.compare_eq_gt.2 h2] at ho
      clear h1 h2
      go_enter Try.func132, Try.ntmps132
      go_wp2_with (go_at_call 146; (first | (with_reducible refine (isNaNF_any y hy _).mono ?_) | (with_reducible refine (isNaNF_any x hx _).mono ?_)); rintro e w' ⟨rfl, rfl⟩)
      go_ret
      exact ⟨ret_int H.out.symm, rfl⟩
    · have H : Hid (cmpW x y = 0) := by show cmpW x y = 0; unfold cmpW; rw [if_neg h1, if_neg h2]
      rw [Nat.compare_eq_eq.2 (by omega)] at ho
      clear h1 h2
      go_enter Try.func132, Try.ntmps132
      go_wp2_with (go_at_call 146; (first | (with_reducible refine (isNaNF_any y hy _).mono ?_) | (with_reducible refine (isNaNF_any x hx _).mono ?_)); rintro e w' ⟨rfl, rfl⟩)
      go_ret
      exact ⟨ret_int H.out.symm, rfl⟩

theorem fcl_any (f : Nat → Nat) (N : Nat) (hf : ∀ i, i < N → Ch (f i)) (r : Option Nat) (w0 : World) : ClF Try.prog 131 f r N w0 (fun x y => cmpW (f y) (f x)) := by
  intro W x y hW hx hy
  have HX := Lib.hid (hf x hx)
  have HY := Lib.hid (hf y hy)
  show Calls _ _ _ _ fun e w' => e = .returned (.int .i64 (cmpW (f y) (f x))) ∧ Qu W w'
  generalize f x = u at *
  generalize f y = v at *
  go_enter Try.func131, Try.ntmps131
  go_wp2_with (go_at_call 132; refine (compareF_any v u HY.out HX.out _).mono ?_; rintro e w' ⟨rfl, rfl⟩)
  go_ret
  exact ⟨rfl, Qu.refl _⟩

theorem eql_nil_some {P : Program} (w : World) {t e : TypeId} (a : Addr) (n c : Nat) (ht : P.underlying t = some (.slice e)) :
    (binOp .eql t (.slice (some a) n c) (.slice none 0 0)).run P w = .ok (.bool false) w := by
  have h : ∀ d : Nat, (Op.equalIn (d + 1) t (.slice (some a) n c) (.slice none 0 0)).run P w = .ok false w := fun d => by
    simp [Op.equalIn, run_underlying ht]
  simp only [binOp]
  simp [Op.equal, Op.maxDepth, h 9999]

set_option maxRecDepth 10000 in
set_option maxHeartbeats 1000000 in
theorem cloneF_any (v : Value) (xs : List Nat) (n : Nat) (hn : xs.length = n) (h1 : 1 ≤ n) (hm : n ≤ 1048576) (w : World) (hv : SlR w v (xs.map (Value.float .f32))) :
    Calls Try.prog 129 #[v] w (RetSl w 32 n (xs.map (Value.float .f32)) id) := by
  obtain ⟨a, c, rfl, hnc, hcm, hcell⟩ := hv
  rw [List.length_map, hn] at hnc ⊢
  obtain ⟨b, off, rfl, -⟩ := hcell 0 (.float .f32 (xs[0]?.getD 0)) (by rw [List.getElem?_map, List.getElem?_eq_getElem (by omega)]; rfl)
  have HC : Hid (∀ W, Below w.heap.size w W → ∀ j u, (xs.map (Value.float .f32))[j]? = some u → W.cell? ((⟨b, off, none⟩ : Addr).add j) = some u) := Lib.hid fun W hW j u hu => by
    obtain ⟨b', o', e, h⟩ := hcell j u hu
    cases e
    rw [add_at]
    exact cell_step h hW
  have HN := Lib.hid hn
  unfold maxLen at hcm
  clear hcell hn
  obtain ⟨i0, hi0, hz0, hz1, hz2⟩ := info_parts info_Float32S
  have hown0 : (w.alloc (.cells #[] 32)).ownsRow w.heap.size 32 1 (.slice (some ⟨w.heap.size, 0, none⟩) 0 0) 0 [] := World.ownsRow_made w #[] 0 (Nat.le_refl _) (Nat.zero_le _) rfl
  have hb0 : Below w.heap.size w (w.alloc (.cells #[] 32)) := by go_grown
  have GV := Lib.hid (HC.out _ hb0)
  have hnil : ∀ W : World, (binOp .eql 25 (.slice (some ⟨b, off, none⟩) n c) (.slice none 0 0)).run Try.prog W = .ok (.bool false) W := fun W => eql_nil_some W _ _ _ Try.underlying25
  go_enter Try.func129, Try.ntmps129
  go_wp2_with (at_builtin; refine wpList_append_own _ rfl _ _ 25 rfl w.heap.size 32 i0 (.float .f32 0) 1 4 Try.underlying25 hi0 hz0 hz1 hz2 rfl (by decide) _ _ _ rfl hown0 ⟨b, off, none⟩ n c (xs.map (Value.float .f32)) rfl (by rw [List.length_map, HN.out, Nat.mul_one]) GV.out (flt_oneCell xs) (by unfold maxLen; omega) (by omega) hb0.size ?_; intro v' w' hown' hg' _)
  have hb' : Below w.heap.size w w' := hb0.trans (grown_below hg' hown0 (Nat.le_refl _) hb0.size)
  go_ret
  rw [List.nil_append, Nat.zero_add] at hown'
  exact RetSl.of (f := id) hown' hb'

theorem wds_fal (xs : List Nat) : wds (wat xs) (ordX (gtW (wat xs)) id xs.length) = (falF xs).map (Value.float .f32) := by
  unfold falF; rw [List.map_map]; rfl
theorem wds_range (xs : List Nat) : wds (wat xs) (List.range xs.length) = xs.map (Value.float .f32) := by
  conv => rhs; rw [← map_wat xs]
  rw [List.map_map]; rfl
set_option maxHeartbeats 1000000 in
theorem falling_any (v : Value) (xs : List Nat) (n : Nat) (hn : xs.length = n) (h1 : 1 ≤ n) (hm : n ≤ 32) (hch : ∀ x ∈ xs, Ch x) (w : World) (hv : SlR w v (xs.map (Value.float .f32))) :
    Calls Try.prog 106 #[v] w (RetSl w 32 n ((falF xs).map (Value.float .f32)) id) := by
  have HCL := Lib.hid (cloneF_any v xs n hn h1 (by omega) w hv)
  have HW : Hid (∀ i, i < n → Ch (wat xs i)) := Lib.hid fun i hi => by
    unfold wat; rw [List.getElem?_eq_getElem (by omega)]; exact hch _ (List.getElem_mem _)
  have HR := Lib.hid (wds_range xs)
  have HF := Lib.hid (wds_fal xs)
  rw [hn] at HR HF
  have HS : Hid (∀ (W : World) (a : Option Addr) (c : Nat), W.ownsRow w.heap.size 32 1 (.slice a n c) n (xs.map (Value.float .f32)) → Below w.heap.size w W → Calls Try.prog 130 #[.slice a n c, .func (.func 131) #[] #[]] W fun e w' => e = .returned (.tuple #[]) ∧ w'.ownsRow w.heap.size 32 1 (.slice a n c) n ((falF xs).map (Value.float .f32)) ∧ Below w.heap.size w w') := Lib.hid fun W a c hW hbW => by
    obtain ⟨g, rfl, hgB, hgl⟩ := own_some hW h1
    rw [← HR.out] at hW
    refine (sortFall_any (g := g) (wat xs) _ n W W (fun x y => cmpW (wat xs y) (wat xs x)) (gtW (wat xs)) (gtW_sw _) (fun x y _ _ => ncmpW _ _ _) (fcl_any _ _ HW.out _ _) c h1 (by omega) hW (World.grownBy.refl _ _)).mono ?_
    rintro e w' ⟨rfl, hO, -, hg⟩
    rw [HF.out] at hO
    exact ⟨rfl, hO, Below.grown hbW hg hbW.size (fun k hk => by simp [Value.ownBlock] at hk; omega)⟩
  clear hn hch hv
  go_enter Try.func106, Try.ntmps106
  go_wp2_with (first | (go_at_call 130; refine (HS.out _ _ _ hO1 hb1).mono ?_; rintro e w2 ⟨rfl, hO2, hb2⟩) | (go_at_call 129; refine HCL.out.mono ?_; rintro e w1 ⟨a1, c1, rfl, hO1, hb1⟩))
  go_ret
  exact RetSl.of (f := id) hO2 hb2
theorem flt_cell {w : World} {B n : Nat} {a : Option Addr} {c : Nat} {us : List Nat} (h : w.ownsRow B 32 1 (.slice a n c) n (us.map (Value.float .f32))) (hl : us.length = n) {k : Nat} (hk : k < n) : ∃ g1, a = some ⟨g1, 0, none⟩ ∧ w.cell? ⟨g1, k, none⟩ = some (.float .f32 (us[k]?.getD 0)) := by
  obtain ⟨g, rfl, -, -⟩ := own_some h (by omega)
  refine ⟨g, rfl, ?_⟩
  have := h.cellAt k (by omega)
  rw [List.getElem?_map, List.getElem?_eq_getElem (by omega)] at this
  rw [this, List.getElem?_eq_getElem (by omega)]
  rfl

set_option maxRecDepth 4000 in
set_option maxHeartbeats 4000000 in
theorem impl_IsMoreEven (w : World) (v : Value) (xs : List Nat) (hv : SlR w v (xs.map (Value.float .f32))) (hx : ∀ x ∈ xs, x < 4294967296) (_ : xs.length ≤ 1048576) (u : Value) (ys : List Nat) (hu : SlR w u (ys.map (Value.float .f32))) (hy : ∀ x ∈ ys, x < 4294967296) (_ : ys.length ≤ 1048576) :
    Calls Try.prog 56 #[v, u] w fun e w' => e = .returned (.tuple #[.bool (out_IsMoreEven xs ys).1, .bool (out_IsMoreEven xs ys).2]) ∧ Below w.heap.size w w' := by
  obtain ⟨a, na, ca, rfl, -, -, -, -⟩ := SlR.opened 0 hv
  obtain ⟨b, nb, cb, rfl, -, -, -, -⟩ := SlR.opened 0 hu
  have HA := Lib.hid (areRows_any _ _ xs ys w hv hu hx hy)
  cases ht : twB xs ys
  · rw [ht] at HA
    rw [show out_IsMoreEven xs ys = (false, false) by unfold out_IsMoreEven; rw [ht]; rfl]
    clear ht hv hu
    go_enter Try.func56, Try.ntmps56
    go_wp2_with (go_at_call 97; refine HA.out.mono ?_; rintro e w' ⟨rfl, hq⟩)
    go_ret2
    exact ⟨rfl, hq.keep⟩
  · rw [ht] at HA
    obtain ⟨h1, h2, hl⟩ := twB_split ht
    obtain ⟨r1, r2, r3⟩ := rowB_one h1
    obtain ⟨s1, s2, s3⟩ := rowB_one h2
    have cx := oneB_ch r3
    have cy := oneB_ch s3
    obtain ⟨n, hn⟩ : ∃ n, n = xs.length := ⟨_, rfl⟩
    have F1 : Hid (∀ W, Below w.heap.size w W → Calls Try.prog 106 #[.slice a na ca] W (RetSl W 32 n ((falF xs).map (Value.float .f32)) id)) := Lib.hid fun W hW => falling_any _ xs n hn.symm (by omega) (by omega) cx W (hv.below hW)
    have F2 : Hid (∀ W, Below w.heap.size w W → Calls Try.prog 106 #[.slice b nb cb] W (RetSl W 32 n ((falF ys).map (Value.float .f32)) id)) := Lib.hid fun W hW => falling_any _ ys n (by omega) (by omega) (by omega) cy W (hu.below hW)
    have HR : Hid (out_IsMoreEven xs ys = (mevB (falF xs) (falF ys) n, true)) := Lib.hid (by unfold out_IsMoreEven; rw [ht, hn]; rfl)
    have l1 : (falF xs).length = n := by rw [falF_length, hn]
    have l2 : (falF ys).length = n := by rw [falF_length, hl, hn]
    have c1 : ∀ x ∈ falF xs, Ch x := fun x hx => cx x (falF_mem hx)
    have c2 : ∀ x ∈ falF ys, Ch x := fun x hx => cy x (falF_mem hx)
    have hn1 : 1 ≤ n := by omega
    have hn2 : n ≤ 32 := by omega
    clear ht h1 h2 hl r1 r2 r3 s1 s2 s3 cx cy hn hv hu hx hy
    generalize out_IsMoreEven xs ys = res at *
    generalize falF xs = us at *
    generalize falF ys = vs at *
    have HPS := Lib.hid (ps_step c1 c2 l1 l2)
    clear c1 c2
    go_enter Try.func56, Try.ntmps56
    go_wp2_with (first | (go_at_call 106; refine (F2.out _ hb3).mono ?_; rintro e w2 ⟨a2, k2, rfl, hO2, hb2⟩) | (go_at_call 106; refine (F1.out _ hq.keep).mono ?_; rintro e w1 ⟨a1, k1, rfl, hO1, hb1⟩; have hb3 := hq.keep.trans (hb1.mono hq.keep.size)) | (go_at_call 97; refine HA.out.mono ?_; rintro e w' ⟨rfl, hq⟩))
    have hbF : Below w.heap.size w w2 := hb3.trans (hb2.mono hb3.size)
    have hO3 := ownsRow_below hO1 hb2
    have HC1 : Hid (∀ k, k < n → ∃ g1, a1 = some ⟨g1, 0, none⟩ ∧ w2.cell? ⟨g1, k, none⟩ = some (.float .f32 (us[k]?.getD 0))) := Lib.hid fun k hk => flt_cell hO3 l1 hk
    have HC2 : Hid (∀ k, k < n → ∃ g1, a2 = some ⟨g1, 0, none⟩ ∧ w2.cell? ⟨g1, k, none⟩ = some (.float .f32 (vs[k]?.getD 0))) := Lib.hid fun k hk => flt_cell hO2 l2 hk
    clear hO1 hO2 hO3 F1 F2 hb1 hb2 hb3 hq l1 l2
    go_loopw [8, 9, 21] (fun p q i W => ∃ k : Nat, k ≤ n ∧ i = .int .i64 (k : Int) ∧ p = .float .f32 (psF us k) ∧ q = .float .f32 (psF vs k) ∧ mevB us vs k = true ∧ w2 = W) (fun _ _ i _ => n - (intOf i).toNat)
    case atStart => exact ⟨0, Nat.zero_le _, rfl, rfl, rfl, rfl, rfl⟩
    case round =>
      obtain ⟨k, hk, rfl, rfl, rfl, hm, rfl⟩ := hrel
      have HM := Lib.hid hm
      clear hm
      by_cases hkn : k < n
      · obtain ⟨g1, rfl, d1⟩ := HC1.out k hkn
        obtain ⟨g2, rfl, d2⟩ := HC2.out k hkn
        obtain ⟨p1, p2, p3, p4, p5⟩ := HPS.out k hkn
        have hord := cmp_pp p3 p5
        have HAT : Hid (mevAt us vs k = decide (fA .add .f32 (psF us k) (us[k]?.getD 0) ≤ fA .add .f32 (fA .add .f32 (psF vs k) (vs[k]?.getD 0)) 897581056)) := Lib.hid rfl
        have HXX : Hid (psF us (k + 1) = fA .add .f32 (psF us k) (us[k]?.getD 0)) := Lib.hid rfl
        have HYY : Hid (psF vs (k + 1) = fA .add .f32 (psF vs k) (vs[k]?.getD 0)) := Lib.hid rfl
        clear p3 p5
        generalize us[k]?.getD 0 = e1 at *
        generalize vs[k]?.getD 0 = e2 at *
        generalize psF us k = q1 at *
        generalize psF vs k = q2 at *
        replace hord : FloatKind.f32.format.order (fA .add .f32 q1 e1) (fA .add .f32 (fA .add .f32 q2 e2) 897581056) = some (compare (fA .add .f32 q1 e1) (fA .add .f32 (fA .add .f32 q2 e2) 897581056)) := hord
        by_cases hle : fA .add .f32 q1 e1 ≤ fA .add .f32 (fA .add .f32 q2 e2) 897581056
        · have HT : Hid (mevAt us vs k = true) := Lib.hid (by rw [HAT.out]; exact decide_eq_true hle)
          by_cases heq : fA .add .f32 q1 e1 = fA .add .f32 (fA .add .f32 q2 e2) 897581056
          all_goals
            first | rw [Nat.compare_eq_eq.2 heq] at hord | rw [Nat.compare_eq_lt.2 (by omega)] at hord
            clear heq hle
            go_wp2
            go_roundw
            case rel => exact ⟨k + 1, by omega, by go_num, by rw [HXX.out], by rw [HYY.out], by rw [mevB_succ, HM.out, HT.out]; rfl, trivial⟩
            case measure => simp [intOf]; omega
        · have HT : Hid (mevAt us vs k = false) := Lib.hid (by rw [HAT.out]; exact decide_eq_false hle)
          rw [Nat.compare_eq_gt.2 (by omega)] at hord
          have HRF : Hid (mevB us vs n = false) := Lib.hid (mevB_false hkn HT.out)
          clear hle
          go_wp2
          go_ret2
          exact ⟨by rw [HR.out, HRF.out]; rfl, hbF⟩
      · obtain rfl : k = n := by omega
        go_wp2
        go_ret2
        exact ⟨by rw [HR.out, HM.out]; rfl, hbF⟩

end Go.Proofs.Ytmocfnpbofeiiaa
