/- A row of a table divided by its sum. -/
import Derived.Test.YtmocfnpbofeiiaaMTab
namespace Go.Proofs.Ytmocfnpbofeiiaa
set_option linter.unusedSimpArgs false
set_option linter.unusedVariables false
open Go.RowKit

/-- The numbers divided by s. -/
def divAll (xs : List Nat) (s : Nat) : List Nat := xs.map (fun x => fA .quo .f32 x s)
theorem divAll_succ (xs : List Nat) (s k : Nat) (h : k < xs.length) : divAll (xs.take (k + 1)) s = divAll (xs.take k) s ++ [fA .quo .f32 (xs[k]?.getD 0) s] := by
  unfold divAll
  rw [List.take_succ_eq_append_getElem h, List.map_append]
  simp [List.getElem?_eq_getElem h]
theorem divAll_length (xs : List Nat) (s : Nat) : (divAll xs s).length = xs.length := by simp [divAll]
theorem pn_lt {x : Nat} (h : Pn x) : x < 4294967296 := by unfold Pn at h; omega
theorem divAll_lt {xs : List Nat} {s : Nat} (h : ∀ x ∈ xs, Ch x) (hs : s ≤ 2139095040) (h0 : 0 < s) : ∀ x ∈ divAll xs s, x < 4294967296 := by
  intro x hx
  unfold divAll at hx
  obtain ⟨y, hy, rfl⟩ := List.mem_map.1 hx
  exact pn_lt (div_ch (h y hy) hs h0).2
/-- Powers of two as words. -/
def W2 (e : Nat) : Nat := (127 + e) * 8388608
theorem rv_W2 (e : Nat) : rv Ieee.single (W2 e) = pv 1 e := by
  have h := rv_at Ieee.single (126 + e) (Ieee.single.binade) (.inr ⟨Nat.le_refl _, by have := binade_pos Ieee.single; omega⟩)
  have hB : Ieee.single.binade = 8388608 := by decide
  have hW : (126 + e) * Ieee.single.binade + Ieee.single.binade = W2 e := by rw [hB]; unfold W2; omega
  have hS := pv_shift 1 23 (Ieee.single.leastPlace + ((126 + e : Nat) : Int))
  have h2 : 1 * 2 ^ 23 = Ieee.single.binade := by decide
  rw [h2] at hS
  have h3 : Ieee.single.leastPlace = -149 := by decide
  have h4 : Ieee.single.leastPlace + ((126 + e : Nat) : Int) + ((23 : Nat) : Int) = (e : Int) := by rw [h3]; omega
  rw [h4] at hS
  rw [← hW, h, hS]
theorem add_W2 {s x e : Nat} (hs : s ≤ W2 e) (hx : Pn x) (hxe : x % 2147483648 ≤ W2 e) (he : e ≤ 126) : fA .add .f32 s x ≤ W2 (e + 1) := by
  have he1 : W2 e < 2139095040 := by unfold W2; omega
  have hcs : Ch s := .inl (by omega)
  have hcx : Ch x := by unfold Pn at hx; unfold Ch; omega
  obtain ⟨w, h1, h2, h3⟩ := add_spec s_hf hcs.fnt hcx.fnt
  obtain ⟨k1, k2⟩ := fA_of (op := .add) (k := .f32) h1
  have hw := (add_pn (s := s) (by omega) hx).2.1
  rw [k2] at hw ⊢
  have n1 := hcs.nonneg
  have n2 := hcx.nonneg
  have hr : rg Ieee.single w = w := rg_of_le Ieee.single (by rw [s_inf]; exact hw)
  rw [← hr]
  refine h2.le ?_
  rw [av_of_nonneg (by grind), rv_W2]
  have e1 := rv_le Ieee.single hs
  have e2 := rv_le Ieee.single hxe
  rw [rv_W2] at e1 e2
  rw [hcs.sv, hcx.sv, show s % 2147483648 = s by omega]
  have e3 : pv 1 ((e + 1 : Nat) : Int) = pv 1 e + pv 1 e := by
    rw [← pv_add, show (1 + 1 : Nat) = 1 * 2 ^ 1 from rfl, pv_shift]; congr 1
  rw [e3]; grind
theorem foldl_W2 (xs : List Nat) (h : ∀ x ∈ xs, Pn x ∧ x % 2147483648 ≤ W2 1) : ∀ (s e : Nat), 1 ≤ e → s ≤ W2 e → e + xs.length ≤ 127 → xs.foldl (fA .add .f32) s ≤ W2 (e + xs.length) := by
  induction xs with
  | nil => intro s e _ hs _; exact hs
  | cons a l ih =>
    intro s e he hs hl
    obtain ⟨h1, h2⟩ := h a (List.mem_cons_self ..)
    have hle : W2 1 ≤ W2 e := by unfold W2; omega
    rw [List.length_cons] at hl
    have := ih (fun x hx => h x (List.mem_cons_of_mem _ hx)) _ (e + 1) (by omega) (add_W2 hs h1 (by omega) (by omega)) (by omega)
    rw [List.foldl_cons, List.length_cons, show e + (l.length + 1) = e + 1 + l.length by omega]
    exact this
/-- A sum that is nearly 1 is at most 2. -/
theorem near_le {s : Nat} (hs : s ≤ 2139095040) (h : nearB s = true) : s ≤ W2 1 := by
  have h := of_decide_eq_true h
  by_cases hle : s ≤ W2 1
  · exact hle
  · exfalso
    have hW : W2 1 = 1073741824 := by decide
    obtain ⟨g1, _, q, hq, hc⟩ := sub_one hs
    by_cases hi : s = 2139095040
    · subst hi
      revert h
      decide +kernel
    · have hcs : Ch s := .inl (by omega)
      have h1 : Ch 1065353216 := .inl (by omega)
      obtain ⟨w, u1, u2, _⟩ := sub_spec s_hf hcs.fnt h1.fnt
      obtain ⟨a1, a2⟩ := fA_of (op := .sub) (k := .f32) u1
      rw [a2] at h
      have e1 := hcs.sv
      have e2 := h1.sv
      rw [Nat.mod_eq_of_lt (by omega)] at e1 e2
      have r1 : rv Ieee.single 1065353216 = pv 1 0 := by have := rv_W2 0; rw [show W2 0 = 1065353216 by decide] at this; exact this
      have r2 := rv_W2 1
      rw [hW] at r2
      have r3 : pv 1 ((1 : Nat) : Int) = pv 1 0 + pv 1 0 := by
        rw [← pv_add, show (1 + 1 : Nat) = 1 * 2 ^ 1 from rfl, pv_shift]; rfl
      have r4 := rv_lt Ieee.single (show 1073741824 < s by omega)
      have hpos := pv_nonneg 1 0
      have hge := u2.ge (K := 1065353216) (by rw [s_inf]; omega) (by rw [av_of_nonneg (by rw [e1, e2]; grind), e1, e2]; grind)
      rw [rgs] at hge
      omega
theorem one_le {xs : List Nat} (h : oneB xs = true) : fsum xs ≤ W2 1 := by
  have hp : ∀ x ∈ xs, Pn x := fun x hx => (oneB_ch h x hx).pn
  unfold oneB at h
  rw [Bool.and_eq_true] at h
  exact near_le (fsum_le hp) h.2
theorem one_el {xs : List Nat} (h : oneB xs = true) : ∀ x ∈ xs, Pn x ∧ x % 2147483648 ≤ W2 1 := fun x hx =>
  ⟨(oneB_ch h x hx).pn, Nat.le_trans (le_fsum (fun x hx => (oneB_ch h x hx).pn) x hx) (one_le h)⟩
/-- The sum of a few chances out of a table is finite. -/
theorem few_fin {xs ys : List Nat} (h : oneB xs = true) (hy : ∀ x ∈ ys, x ∈ xs) (hl : ys.length ≤ 64) : fsum ys < 2139095040 := by
  have := foldl_W2 ys (fun x hx => one_el h x (hy x hx)) 0 1 (by omega) (by unfold W2; omega) (by omega)
  have h2 : W2 (1 + ys.length) < 2139095040 := by unfold W2; omega
  unfold fsum; omega

set_option maxHeartbeats 1000000 in
theorem given_any (s : Nat) (v : Value) (xs : List Nat) (w : World) (hv : SlR w v (xs.map (Value.float .f32))) (hl : xs.length ≤ 1024) (hx : ∀ x ∈ xs, Ch x) (hs : s ≤ 2139095040) (h0 : 0 < s) :
    Calls Try.prog 81 #[v, .float .f32 s] w (RetSl w 32 xs.length ((divAll xs s).map (Value.float .f32)) id) := by
  obtain ⟨i0, hi0, hz00, hz01, hz02⟩ := info_parts info_Float32S
  obtain ⟨a, n, c, rfl, hnl, hnc, hcm, hcell⟩ := SlR.opened 0 hv
  have hn9 : n ≤ 1024 := by omega
  rw [hnl]
  have HN := Lib.hid hnl
  have HC := Lib.hid hcell
  have HX := Lib.hid hx
  have HZ := Lib.hid hs
  have H0 := Lib.hid h0
  clear hnl hcell hcm hnc hv hl hx hs h0
  go_enter Try.func81, Try.ntmps81
  go_wp2
  have hown0 : (w.alloc (.cells #[] 32)).ownsRow w.heap.size 32 1 (.slice (some ⟨w.heap.size, 0, none⟩) 0 0) 0 [] := World.ownsRow_made w #[] 0 (Nat.le_refl _) (Nat.zero_le _) rfl
  have hb0 : Below w.heap.size w (w.alloc (.cells #[] 32)) := by go_grown
  go_loopw [5, 11] (fun u i wr => ∃ k : Nat, k ≤ n ∧ i = .int .i64 k ∧ wr.ownsRow w.heap.size 32 1 u k ((divAll (xs.take k) s).map (Value.float .f32)) ∧ Below w.heap.size w wr) (fun _ i _ => n - (intOf i).toNat)
  case atStart => exact ⟨0, Nat.zero_le _, rfl, hown0, hb0⟩
  case round =>
    clear hown0 hb0
    obtain ⟨k, hk, rfl, hown, hb⟩ := hrel
    have hbs := hb.size
    by_cases hlt : k < n
    · obtain ⟨b, off, rfl, hc0, hbl⟩ := HC.out k hlt
      rw [List.getD_eq_getElem?_getD] at hc0
      have hc := (hb.cell (p := ⟨b, off + k, none⟩) hbl).trans hc0
      have hkl : k < xs.length := by rw [HN.out]; exact hlt
      have hdv := (div_ch (get_pn HX.out hkl) HZ.out H0.out).1
      have HS := Lib.hid (divAll_succ xs s k hkl)
      generalize xs[k]?.getD 0 = z at *
      clear hkl hc0
      go_wp2_with (at_builtin; refine wpList_append_own _ rfl _ _ 25 rfl w.heap.size 32 i0 (.float .f32 0) 1 4 Try.underlying25 hi0 hz00 hz01 hz02 rfl (by decide) u5 _ _ rfl (hown.alloc _) ⟨(World.heap wr).size, 0, none⟩ 1 1 [.float .f32 (fA .quo .f32 z s)] rfl rfl (cell_one_new _ _ _) (one_oneCell rfl) (by unfold maxLen; omega) (by omega) (by simp only [World.size_alloc]; have := hb.size; omega) ?_; intro v1 w1 hown1 hgx _; have hb1 := app_below hb (by have := hb.size; omega) _ hgx hown (by omega))
      rw [map_snoc_f, ← HS.out] at hown1
      go_roundw
      case rel => exact ⟨k + 1, by omega, by go_num, hown1, hb1⟩
      case measure => simp [intOf]; omega
    · obtain rfl : n = k := by omega
      go_wp2
      go_ret
      rw [List.take_of_length_le (by rw [HN.out]; exact Nat.le_refl _)] at hown
      exact RetSl.of (f := id) hown hb

set_option maxHeartbeats 2000000 in
theorem l02Given_any (g : Nat) (m q : Nat) (v : Value) (xs : List Nat) (s : Nat) (w : World) (hg1 : w.cell? ⟨g, 1, none⟩ = some (.int .i64 m)) (hg2 : w.cell? ⟨g, 2, none⟩ = some v) (hv : SlR w v (xs.map (Value.float .f32))) (hp : ∀ x ∈ xs, Ch x) (m1 : 1 ≤ m) (m2 : m ≤ 64) (q2 : q ≤ 64) (hk : (q + 1) * m ≤ xs.length) (hS : fsum (rowOf xs m q) = s) (h0 : 0 < s) :
    Calls Try.prog 95 #[.pointer (some ⟨g, 0, none⟩), .int .i64 q] w (RetSl w 32 m ((divAll (rowOf xs m q) s).map (Value.float .f32)) id) := by
  obtain ⟨i0, hi0, hz00, hz01, hz02⟩ := info_parts info_Float32S
  have hpr : ∀ x ∈ rowOf xs m q, Ch x := fun x hx => hp x (rowOf_mem hx)
  have hs : s ≤ 2139095040 := by rw [← hS]; exact fsum_le (fun x hx => (hpr x hx).pn)
  have HPR := Lib.hid hpr
  have HK := Lib.hid hk
  have HS := Lib.hid hS
  have HZ := Lib.hid hs
  have H0 := Lib.hid h0
  have HRL := Lib.hid (rowOf_length hk)
  clear hp hk hS hs h0 hpr
  go_enter Try.func95, Try.ntmps95
  go_wp2_with (first | (go_at_call 120; refine (l02At_any g m q _ xs _ (cell_step hg1 (by go_grown)) (cell_step hg2 (by go_grown)) (hv.below (by go_grown)) m1 m2 q2 HK.out).mono ?_; rintro e w2 ⟨⟨ar, cr, rfl, hsr⟩, hqu⟩; have hb1 := (show Below w.heap.size w (w.alloc (.cells #[] 32)) by go_grown).trans (hqu.below _)) | (go_at_call 119; refine (l02Sum_any _ (rowOf xs m q) _ (hsr _ (hv.below hb1)) (fun x hx => (HPR.out x hx).pn)).mono ?_; rw [HS.out]; rintro e w3 ⟨rfl, rfl⟩))
  have hown0 : (w.alloc (.cells #[] 32)).ownsRow w.heap.size 32 1 (.slice (some ⟨w.heap.size, 0, none⟩) 0 0) 0 [] := World.ownsRow_made w #[] 0 (Nat.le_refl _) (Nat.zero_le _) rfl
  have hown1 := ownsRow_below hown0 hqu.keep
  have hsr1 := hsr _ hv
  obtain ⟨a4, n4, c4, he4, hnl4, hnc4, hcm4, hcell⟩ := SlR.opened 0 hsr1
  simp only [Value.slice.injEq] at he4
  obtain ⟨rfl, rfl, rfl⟩ := he4
  have HC := Lib.hid hcell
  clear hcell hnc4 hcm4 hnl4 hown0 hsr hqu hg1 hg2 hv hsr1
  go_loopw [5, 8] (fun u i wr => ∃ k : Nat, k ≤ m ∧ i = .int .i64 k ∧ wr.ownsRow w.heap.size 32 1 u k ((divAll ((rowOf xs m q).take k) s).map (Value.float .f32)) ∧ Below w.heap.size w wr) (fun _ i _ => m - (intOf i).toNat)
  case atStart => exact ⟨0, Nat.zero_le _, rfl, hown1, hb1⟩
  case round =>
    clear hown1 hb1
    obtain ⟨k, hk, rfl, hown, hb⟩ := hrel
    have hbs := hb.size
    by_cases hlt : k < m
    · obtain ⟨b, off, rfl, hc0, hbl⟩ := HC.out k hlt
      rw [List.getD_eq_getElem?_getD] at hc0
      have hc := (hb.cell (p := ⟨b, off + k, none⟩) hbl).trans hc0
      have hkl : k < (rowOf xs m q).length := by rw [HRL.out]; exact hlt
      have hdv := (div_ch (get_pn HPR.out hkl) HZ.out H0.out).1
      have HS2 := Lib.hid (divAll_succ (rowOf xs m q) s k hkl)
      generalize (rowOf xs m q)[k]?.getD 0 = z at *
      clear hkl hc0
      go_wp2_with (at_builtin; refine wpList_append_own _ rfl _ _ 25 rfl w.heap.size 32 i0 (.float .f32 0) 1 4 Try.underlying25 hi0 hz00 hz01 hz02 rfl (by decide) u5 _ _ rfl (hown.alloc _) ⟨(World.heap wr).size, 0, none⟩ 1 1 [.float .f32 (fA .quo .f32 z s)] rfl rfl (cell_one_new _ _ _) (one_oneCell rfl) (by unfold maxLen; omega) (by omega) (by simp only [World.size_alloc]; have := hb.size; omega) ?_; intro v1 w1 hown1 hgx _; have hb1 := app_below hb (by have := hb.size; omega) _ hgx hown (by omega))
      rw [map_snoc_f, ← HS2.out] at hown1
      go_roundw
      case rel => exact ⟨k + 1, by omega, by go_num, hown1, hb1⟩
      case measure => simp [intOf]; omega
    · obtain rfl : m = k := by omega
      go_wp2
      go_ret
      rw [List.take_of_length_le (by rw [HRL.out]; exact Nat.le_refl _)] at hown
      exact RetSl.of (f := id) hown hb

end Go.Proofs.Ytmocfnpbofeiiaa
