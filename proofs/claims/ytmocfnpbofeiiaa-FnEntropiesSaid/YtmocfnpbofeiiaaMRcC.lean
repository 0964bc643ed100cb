/- Rows of counts: the program's countSum, RowOfCounts and SmoothRow (with 0 or 1 added). -/
import Derived.Test.YtmocfnpbofeiiaaMCnR
import Derived.Deep.RegionHeld3
import Derived.Deep.Cut
namespace Go.Proofs.Ytmocfnpbofeiiaa
set_option linter.unusedSimpArgs false
set_option linter.unusedVariables false
open Go.RowKit
open Ieee
theorem int_cells {w : World} {v : Value} {cs : List Nat} {n : Nat} (hv : SlR w v (cnV cs)) (hn : cs.length = n) (h1 : 1 ≤ n) : ∃ b off c, v = .slice (some ⟨b, off, none⟩) n c ∧ n ≤ c ∧ c ≤ maxLen ∧ ∀ W, Below w.heap.size w W → ∀ k, k < n → W.cell? ⟨b, off + k, none⟩ = some (.int .i64 ((cs[k]?.getD 0 : Nat) : Int)) := sl_nats hv hn h1

set_option maxHeartbeats 2000000 in
theorem countSum_any (n : Nat) (cs : List Nat) (v : Value) (w : World) (hc : Cn cs n) (hn1 : 1 ≤ n) (hn : n ≤ 16) (hv : SlR w v (cnV cs)) :
    Calls Try.prog 67 #[v] w fun e w' => e = .returned (.tuple #[.int .i64 ((cs.sum : Nat) : Int), .bool true]) ∧ w = w' := by
  obtain ⟨b, off, c, rfl, hnc, hcm, cell⟩ := int_cells hv hc.len hn1
  have HC := Lib.hid (cell w (Below.refl _ _))
  have HT : Hid (∀ k, k < n → (cs.take (k + 1)).sum = (cs.take k).sum + cs[k]?.getD 0) := Lib.hid fun k hk => sum_take cs (by rw [hc.len]; exact hk)
  have HB : Hid (∀ k, k ≤ n → (cs.take k).sum ≤ 8 * n) := Lib.hid fun k hk => by
    have h1 := sum_top (cs := cs.take k) (fun x hx => hc.top x (List.mem_of_mem_take hx))
    have h2 : (cs.take k).length ≤ n := by rw [List.length_take, hc.len]; omega
    omega
  have HE : Hid (cs.sum = (cs.take n).sum) := Lib.hid (by rw [List.take_of_length_le (by rw [hc.len]; exact Nat.le_refl _)])
  have HX : Hid (∀ k, k < n → cs[k]?.getD 0 ≤ 8) := Lib.hid fun k hk => hc.top _ (by rw [List.getElem?_eq_getElem (by rw [hc.len]; exact hk)]; exact List.getElem_mem _)
  have HW : Hid (∀ (x : Nat) (W : World), x ≤ 8 → Calls Try.prog 60 #[.int .i64 (x : Int), .int .i64 0, .int .i64 1000000] W fun e w' => e = .returned (.bool true) ∧ W = w') := Lib.hid fun x W hx => by
    have := within_any (x : Int) 0 1000000 W
    rwa [show inB (x : Int) 0 1000000 = true by unfold inB; exact decide_eq_true (by omega)] at this
  unfold maxLen at hcm
  clear cell hc hv
  obtain ⟨S, hS⟩ : ∃ S, S = cs.sum := ⟨_, rfl⟩
  rw [← hS] at HE ⊢
  clear hS
  go_enter Try.func67, Try.ntmps67
  go_wp2
  go_loop [4, 9] (fun s i => ∃ k : Nat, k ≤ n ∧ i = .int .i64 (k : Int) ∧ s = .int .i64 (((cs.take k).sum : Nat) : Int)) (fun _ i => n - (intOf i).toNat)
  case atStart => exact ⟨0, Nat.zero_le _, rfl, rfl⟩
  case round =>
    obtain ⟨k, hk, rfl, rfl⟩ := hrel
    by_cases hlt : k < n
    · have hcl := HC.out k hlt
      have HTT := Lib.hid (HT.out k hlt)
      have hb := HB.out k (by omega)
      have hx := HX.out k hlt
      generalize (cs.take k).sum = t at *
      generalize cs[k]?.getD 0 = x at *
      go_wp2_with (go_at_call 60; refine (HW.out _ _ hx).mono ?_; rintro e w' ⟨rfl, rfl⟩)
      go_round
      case rel => exact ⟨k + 1, by omega, by go_num, by rw [HTT.out]; push_cast; rfl⟩
      case measure => simp [intOf]; omega
    · obtain rfl : k = n := by omega
      rw [← HE.out]
      have h32 : decide ((k : Int) ≤ 32) = true := decide_eq_true (by omega)
      go_wp2
      go_ret2
      exact ⟨rfl, rfl⟩

set_option maxRecDepth 4000 in
set_option maxHeartbeats 4000000 in
theorem RowOfCounts_any (n : Nat) (cs : List Nat) (v : Value) (w : World) (hc : Cn cs n) (hn1 : 1 ≤ n) (hn : n ≤ 8) (hv : SlR w v (cnV cs)) :
    Calls Try.prog 17 #[v] w fun e w' => (∃ a c, e = .returned (.tuple #[.slice a n c, .bool true]) ∧ SlR w' (.slice a n c) ((rowK cs).map (Value.float .f32))) ∧ Below w.heap.size w w' := by
  obtain ⟨i0, hi0, hz00, hz01, hz02⟩ := info_parts info_Float32S
  have HCS := Lib.hid (countSum_any n cs v w hc hn1 (by omega) hv)
  have HAR : Hid (∀ (u : Value) (W : World), SlR W u ((rowK cs).map (Value.float .f32)) → Calls Try.prog 68 #[u] W fun e w' => e = .returned (.tuple #[u, .bool true]) ∧ Qu W w') := Lib.hid fun u W hu => asRow_yes u (rowK cs) W hu (hc.lt hn1 hn) (hc.row hn1 hn)
  have HQU : Hid (∀ s : Nat, s < 129 → 1 ≤ s → ∀ k : Nat, k < 9 → (floatBits .quo .f32 (fw k) (fw s)).isSome = true) := fw_quo9
  have HRS : Hid (∀ (k : Nat), k < n → rwV cs (k + 1) = rwV cs k ++ [.float .f32 (fA .quo .f32 (fw (cs[k]?.getD 0)) (fw cs.sum))]) := fun k hk => rwV_succ cs (by rw [hc.len]; exact hk)
  have HRE : Hid (rwV cs n = (rowK cs).map (Value.float .f32)) := Lib.hid (by unfold rwV; rw [List.take_of_length_le (by rw [rowK_len, hc.len]; exact Nat.le_refl _)])
  have HFO : Hid (∀ x : Nat, floatOfInt .f32 (x : Int) = fw x) := fun _ => rfl
  obtain ⟨s1, s2⟩ := hc.sum hn1
  have HX : Hid (∀ k, k < n → cs[k]?.getD 0 ≤ 8) := Lib.hid fun k hk => hc.top _ (by rw [List.getElem?_eq_getElem (by rw [hc.len]; exact hk)]; exact List.getElem_mem _)
  obtain ⟨b, off, c, rfl, hnc, hcm, cell⟩ := int_cells hv hc.len hn1
  have HC := Lib.hid cell
  unfold maxLen at hcm
  clear cell hc hv
  have hF1 := HFO.out cs.sum
  generalize fw = F at *
  generalize cs.sum = T at *
  have hown0 : (w.alloc (.cells #[] 32)).ownsRow w.heap.size 32 1 (.slice (some ⟨w.heap.size, 0, none⟩) 0 0) 0 [] := World.ownsRow_made w #[] 0 (Nat.le_refl _) (Nat.zero_le _) rfl
  have hb0 : Below w.heap.size w (w.alloc (.cells #[] 32)) := by go_grown
  have HR0 : Hid (rwV cs 0 = []) := rfl
  have hown0' : (w.alloc (.cells #[] 32)).ownsRow w.heap.size 32 1 (.slice (some ⟨w.heap.size, 0, none⟩) 0 0) 0 (rwV cs 0) := by rw [HR0.out]; exact hown0
  clear hown0
  have hT0 : ((T : Int) == 0) = false := by simp; omega
  go_enter Try.func17, Try.ntmps17
  go_wp2_with (go_at_call 67; refine HCS.out.mono ?_; rintro e w' ⟨rfl, rfl⟩)
  go_loopw [6, 23] (fun u q wr => ∃ k : Nat, k ≤ n ∧ q = .int .i64 (k : Int) ∧ wr.ownsRow w.heap.size 32 1 u k (rwV cs k) ∧ Below w.heap.size w wr) (fun _ q _ => n - (intOf q).toNat)
  case atStart => exact ⟨0, Nat.zero_le _, rfl, hown0', hb0⟩
  case round =>
    clear hown0' hb0
    obtain ⟨k, hk, rfl, hown, hb⟩ := hrel
    have hbs := hb.size
    by_cases hlt : k < n
    · have hcl := HC.out wr hb k hlt
      have hm := HX.out k hlt
      have hq := HQU.out T (by omega) s1 (cs[k]?.getD 0) (by omega)
      have HS := Lib.hid (HRS.out k hlt)
      have hf := HFO.out (cs[k]?.getD 0)
      generalize cs[k]?.getD 0 = x at *
      go_wp2_with (at_builtin; refine wpList_append_own _ rfl _ _ 25 rfl w.heap.size 32 i0 (.float .f32 0) 1 4 Try.underlying25 hi0 hz00 hz01 hz02 rfl (by decide) u6 _ _ rfl (hown.alloc _) ⟨(World.heap wr).size, 0, none⟩ 1 1 [.float .f32 (fA .quo .f32 (F x) (F T))] rfl rfl (cell_one_new _ _ _) (one_oneCell rfl) (by unfold maxLen; omega) (by omega) (by simp only [World.size_alloc]; have := hb.size; omega) ?_; intro v1 w2 hown2 hgx _; have hb2 := app_below hb (by have := hb.size; omega) _ hgx hown (by omega))
      rw [← HS.out] at hown2
      go_roundw
      case rel => exact ⟨k + 1, by omega, by go_num, hown2, hb2⟩
      case measure => simp [intOf]; omega
    · obtain rfl : k = n := by omega
      obtain ⟨a, c', rfl⟩ := ownsRow_shape hown
      rw [HRE.out] at hown
      have hsl := SlR.own hown
      go_wp2_with (go_at_call 68; refine (HAR.out _ _ hsl).mono ?_; rintro e w2 ⟨rfl, hq⟩)
      go_ret2
      exact ⟨⟨a, c', rfl, hsl.below hq.keep⟩, hb.trans (hq.keep.mono hbs)⟩
def aw (a : Nat) : Nat := if a = 0 then 0 else 1065353216
theorem aw_fw : ∀ a : Nat, a < 2 → aw a = fw a := by decide +kernel
theorem fw_mulA : ∀ a : Nat, a < 2 → ∀ n : Nat, n < 9 → (floatBits .mul .f32 (aw a) (fw n)).isSome = true ∧ fA .mul .f32 (aw a) (fw n) = fw (a * n) := by decide +kernel
theorem fw_addA : ∀ s : Nat, s < 65 → ∀ t : Nat, t < 9 → (floatBits .add .f32 (fw s) (fw t)).isSome = true ∧ fA .add .f32 (fw s) (fw t) = fw (s + t) := by decide +kernel
theorem fw_addW : ∀ s : Nat, s < 9 → ∀ a : Nat, a < 2 → (floatBits .add .f32 (fw s) (aw a)).isSome = true ∧ fA .add .f32 (fw s) (aw a) = fw (s + a) := by decide +kernel
theorem fw_quoA : ∀ s : Nat, s < 80 → 1 ≤ s → ∀ k : Nat, k < 10 → (floatBits .quo .f32 (fw k) (fw s)).isSome = true := by decide +kernel
theorem fw_gt0 : ∀ s : Nat, s < 80 → 1 ≤ s → FloatKind.f32.format.order (fw s) 0 = some .gt := by decide +kernel
theorem aw_ge : ∀ a : Nat, a < 2 → FloatKind.f32.format.order (aw a) 0 = some .gt ∨ FloatKind.f32.format.order (aw a) 0 = some .eq := by decide +kernel
theorem aw_fin : ∀ a : Nat, a < 2 → finB (aw a) = true := by decide
/-- Counts with a added to each. -/
def plus (a : Nat) (cs : List Nat) : List Nat := cs.map (· + a)
theorem plus_zero (cs : List Nat) : plus 0 cs = cs := by simp [plus]
theorem plus_len (a : Nat) (cs : List Nat) : (plus a cs).length = cs.length := by simp [plus]
theorem plus_get (a : Nat) (cs : List Nat) {k : Nat} (h : k < cs.length) : (plus a cs)[k]?.getD 0 = cs[k]?.getD 0 + a := by
  simp [plus, List.getElem?_map, List.getElem?_eq_getElem h]
theorem plus_sum (a : Nat) (cs : List Nat) : (plus a cs).sum = cs.sum + a * cs.length := by
  induction cs with
  | nil => simp [plus]
  | cons c cs ih =>
    have e : (plus a (c :: cs)).sum = c + a + (plus a cs).sum := by simp [plus]
    rw [e, ih, List.sum_cons, List.length_cons, Nat.mul_add]
    omega

set_option maxRecDepth 4000 in
set_option maxHeartbeats 4000000 in
theorem SmoothRow_any (a n : Nat) (cs : List Nat) (v : Value) (w : World) (ha : a < 2) (hc : Cn cs n) (hn1 : 1 ≤ n) (hn : n ≤ 8) (hv : SlR w v (cnV cs)) (hrow : rowB (rowK (plus a cs)) = true) (hlt32 : ∀ x ∈ rowK (plus a cs), x < 4294967296) :
    Calls Try.prog 18 #[v, .float .f32 (aw a)] w fun e w' => (∃ a' c, e = .returned (.tuple #[.slice a' n c, .bool true]) ∧ SlR w' (.slice a' n c) ((rowK (plus a cs)).map (Value.float .f32))) ∧ Below w.heap.size w w' := by
  obtain ⟨i0, hi0, hz00, hz01, hz02⟩ := info_parts info_Float32S
  have HCS := Lib.hid (countSum_any n cs v w hc hn1 (by omega) hv)
  have HAR : Hid (∀ (u : Value) (W : World), SlR W u ((rowK (plus a cs)).map (Value.float .f32)) → Calls Try.prog 68 #[u] W fun e w' => e = .returned (.tuple #[u, .bool true]) ∧ Qu W w') := Lib.hid fun u W hu => asRow_yes u _ W hu hlt32 hrow
  have HFI : Hid (∀ W, Calls Try.prog 69 #[.float .f32 (aw a)] W fun e w' => e = .returned (.bool true) ∧ Qu W w') := Lib.hid fun W => by
    have := implIsFinite_any (aw a) W
    rwa [aw_fin a ha] at this
  have hl : (plus a cs).length = n := by rw [plus_len, hc.len]
  have hps := plus_sum a cs
  rw [hc.len] at hps
  obtain ⟨s1, s2⟩ := hc.sum hn1
  have han : a * n ≤ 8 := by
    have : a * n ≤ 1 * 8 := Nat.mul_le_mul (by omega) hn
    omega
  have HQU : Hid (∀ s : Nat, s < 80 → 1 ≤ s → ∀ k : Nat, k < 10 → (floatBits .quo .f32 (fw k) (fw s)).isSome = true) := fw_quoA
  have HAD : Hid (∀ s : Nat, s < 65 → ∀ t : Nat, t < 9 → (floatBits .add .f32 (fw s) (fw t)).isSome = true ∧ fA .add .f32 (fw s) (fw t) = fw (s + t)) := fw_addA
  have HAW : Hid (∀ s : Nat, s < 9 → (floatBits .add .f32 (fw s) (aw a)).isSome = true ∧ fA .add .f32 (fw s) (aw a) = fw (s + a)) := fun s hs => fw_addW s hs a ha
  obtain ⟨u1, u2⟩ := fw_mulA a ha n (by omega)
  have HRS : Hid (∀ (k : Nat), k < n → rwV (plus a cs) (k + 1) = rwV (plus a cs) k ++ [.float .f32 (fA .quo .f32 (fw (cs[k]?.getD 0 + a)) (fw (cs.sum + a * n)))]) := fun k hk => by rw [← hps, ← plus_get a cs (by rw [hc.len]; exact hk)]; exact rwV_succ (plus a cs) (by rw [hl]; exact hk)
  have HRE : Hid (rwV (plus a cs) n = (rowK (plus a cs)).map (Value.float .f32)) := Lib.hid (by unfold rwV; rw [List.take_of_length_le (by rw [rowK_len, hl]; exact Nat.le_refl _)])
  have HFO : Hid (∀ x : Nat, floatOfInt .f32 (x : Int) = fw x) := fun _ => rfl
  have HX : Hid (∀ k, k < n → cs[k]?.getD 0 ≤ 8) := Lib.hid fun k hk => hc.top _ (by rw [List.getElem?_eq_getElem (by rw [hc.len]; exact hk)]; exact List.getElem_mem _)
  obtain ⟨g1, g2⟩ := HAD.out cs.sum (by omega) (a * n) (by omega)
  have hgt := fw_gt0 (cs.sum + a * n) (by omega) (by omega)
  have hge := aw_ge a ha
  obtain ⟨b, off, c, rfl, hnc, hcm, cell⟩ := int_cells hv hc.len hn1
  have HC := Lib.hid cell
  unfold maxLen at hcm
  clear cell hc hv hl hps hrow hlt32
  have hF1 := HFO.out cs.sum
  have hF2 := HFO.out n
  have HR0 : Hid (rwV (plus a cs) 0 = []) := rfl
  generalize rwV (plus a cs) = rv at *
  generalize rowK (plus a cs) = row at *
  have HT2 : Hid (1 ≤ cs.sum + a * n ∧ cs.sum + a * n < 80) := Lib.hid ⟨by omega, by omega⟩
  generalize cs.sum = S at *
  obtain ⟨T, hT⟩ : ∃ T, T = S + a * n := ⟨_, rfl⟩
  rw [← hT] at HRS HT2 g2 hgt
  clear hT han s1 s2
  generalize a * n = an at *
  generalize fw = F at *
  generalize aw a = A at *
  rcases hge with hge | hge
  all_goals
    go_enter Try.func18, Try.ntmps18
    go_upto_region 4 with (first
      | (go_at_call 67; refine HCS.out.mono ?_; rintro e w' ⟨rfl, rfl⟩)
      | (go_at_call 69; refine (HFI.out _).mono ?_; rintro e w1 ⟨rfl, hq1⟩))
    have hb1 : Below w.heap.size w w1 := hq1.keep
    have hb1s := hb1.size
    have hown0 : (w1.alloc (.cells #[] 32)).ownsRow w.heap.size 32 1 (.slice (some ⟨w1.heap.size, 0, none⟩) 0 0) 0 (rv 0) := by
      rw [HR0.out]; exact ownsRow_base (World.ownsRow_made w1 #[] 0 (Nat.le_refl _) (Nat.zero_le _) rfl) hb1s
    have hb0 : Below w.heap.size w (w1.alloc (.cells #[] 32)) := hb1.trans (by go_grown)
    clear hq1
    go_wp2
    go_loopw [9, 43] (fun u q wr => ∃ k : Nat, k ≤ n ∧ q = .int .i64 (k : Int) ∧ wr.ownsRow w.heap.size 32 1 u k (rv k) ∧ Below w.heap.size w wr) (fun _ q _ => n - (intOf q).toNat)
    case atStart => exact ⟨0, Nat.zero_le _, rfl, hown0, hb0⟩
    case round =>
      clear hown0 hb0
      obtain ⟨k, hk, rfl, hown, hb⟩ := hrel
      have hbs := hb.size
      by_cases hlt : k < n
      · have hcl := HC.out wr hb k hlt
        have hm := HX.out k hlt
        have hq := HQU.out T HT2.out.2 HT2.out.1 (cs[k]?.getD 0 + a) (by omega)
        obtain ⟨w1', w2'⟩ := HAW.out (cs[k]?.getD 0) (by omega)
        have HS := Lib.hid (HRS.out k hlt)
        have hf := HFO.out (cs[k]?.getD 0)
        generalize cs[k]?.getD 0 = x at *
        generalize F (x + a) = fx at *
        generalize F x = f0 at *
        go_wp2_with (at_builtin; refine wpList_append_own _ rfl _ _ 25 rfl w.heap.size 32 i0 (.float .f32 0) 1 4 Try.underlying25 hi0 hz00 hz01 hz02 rfl (by decide) u9 _ _ rfl (hown.alloc _) ⟨(World.heap wr).size, 0, none⟩ 1 1 [.float .f32 (fA .quo .f32 fx (F T))] rfl rfl (cell_one_new _ _ _) (one_oneCell rfl) (by unfold maxLen; omega) (by omega) (by simp only [World.size_alloc]; have := hb.size; omega) ?_; intro v1 w2 hown2 hgx _; have hb2 := app_below hb (by have := hb.size; omega) _ hgx hown (by omega))
        rw [← HS.out] at hown2
        go_roundw
        case rel => exact ⟨k + 1, by omega, by go_num, hown2, hb2⟩
        case measure => simp [intOf]; omega
      · obtain rfl : k = n := by omega
        obtain ⟨a', c', rfl⟩ := ownsRow_shape hown
        rw [HRE.out] at hown
        have hsl := SlR.own hown
        go_wp2_with (go_at_call 68; refine (HAR.out _ _ hsl).mono ?_; rintro e w2 ⟨rfl, hq⟩)
        go_ret2
        exact ⟨⟨a', c', rfl, hsl.below hq.keep⟩, hb.trans (hq.keep.mono hbs)⟩

end Go.Proofs.Ytmocfnpbofeiiaa
