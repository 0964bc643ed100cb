/- A row of a table divided by its sum. -/
import Derived.Test.YtjobgobeiiakgaaTab
namespace Go.Proofs.Ytjobgobeiiakgaa
set_option linter.unusedSimpArgs false
set_option linter.unusedVariables false
open Go.RowKit

/-- The numbers divided by s. -/
def divAll (xs : List Nat) (s : Nat) : List Nat := xs.map (fun x => fA .quo .f32 x s)
theorem divAll_succ (xs : List Nat) (s k : Nat) (h : k < xs.length) : divAll (xs.take (k + 1)) s = divAll (xs.take k) s ++ [fA .quo .f32 (xs[k]?.getD 0) s] := by
  unfold divAll
  rw [List.take_succ_eq_append_getElem h, List.map_append]
  simp [List.getElem?_eq_getElem h]
theorem divAll_length (xs : List Nat) (s : Nat) : (divAll xs s).length = xs.length := by simp [divAll]
theorem pn_lt {x : Nat} (h : Pn x) : x < 4294967296 := by unfold Pn at h; omega
theorem divAll_lt {xs : List Nat} {s : Nat} (h : ∀ x ∈ xs, Ch x) (hs : s ≤ 2139095040) (h0 : 0 < s) : ∀ x ∈ divAll xs s, x < 4294967296 := by
  intro x hx
  unfold divAll at hx
  obtain ⟨y, hy, rfl⟩ := List.mem_map.1 hx
  exact pn_lt (div_ch (h y hy) hs h0).2
/-- Powers of two as words. -/
def W2 (e : Nat) : Nat := (127 + e) * 8388608
theorem rv_W2 (e : Nat) : rv Ieee.single (W2 e) = pv 1 e := by
  have h := rv_at Ieee.single (126 + e) (Ieee.single.binade) (.inr ⟨Nat.le_refl _, by have := binade_pos Ieee.single; omega⟩)
  have hB : Ieee.single.binade = 8388608 := by decide
  have hW : (126 + e) * Ieee.single.binade + Ieee.single.binade = W2 e := by rw [hB]; unfold W2; omega
  have hS := pv_shift 1 23 (Ieee.single.leastPlace + ((126 + e : Nat) : Int))
  have h2 : 1 * 2 ^ 23 = Ieee.single.binade := by decide
  rw [h2] at hS
  have h3 : Ieee.single.leastPlace = -149 := by decide
  have h4 : Ieee.single.leastPlace + ((126 + e : Nat) : Int) + ((23 : Nat) : Int) = (e : Int) := by rw [h3]; omega
  rw [h4] at hS
  rw [← hW, h, hS]
theorem add_W2 {s x e : Nat} (hs : s ≤ W2 e) (hx : Pn x) (hxe : x % 2147483648 ≤ W2 e) (he : e ≤ 126) : fA .add .f32 s x ≤ W2 (e + 1) := by
  have he1 : W2 e < 2139095040 := by unfold W2; omega
  have hcs : Ch s := .inl (by omega)
  have hcx : Ch x := by unfold Pn at hx; unfold Ch; omega
  obtain ⟨w, h1, h2, h3⟩ := add_spec s_hf hcs.fnt hcx.fnt
  obtain ⟨k1, k2⟩ := fA_of (op := .add) (k := .f32) h1
  have hw := (add_pn (s := s) (by omega) hx).2.1
  rw [k2] at hw ⊢
  have n1 := hcs.nonneg
  have n2 := hcx.nonneg
  have hr : rg Ieee.single w = w := rg_of_le Ieee.single (by rw [s_inf]; exact hw)
  rw [← hr]
  refine h2.le ?_
  rw [av_of_nonneg (by grind), rv_W2]
  have e1 := rv_le Ieee.single hs
  have e2 := rv_le Ieee.single hxe
  rw [rv_W2] at e1 e2
  rw [hcs.sv, hcx.sv, show s % 2147483648 = s by omega]
  have e3 : pv 1 ((e + 1 : Nat) : Int) = pv 1 e + pv 1 e := by
    rw [← pv_add, show (1 + 1 : Nat) = 1 * 2 ^ 1 from rfl, pv_shift]; congr 1
  rw [e3]; grind
theorem foldl_W2 (xs : List Nat) (h : ∀ x ∈ xs, Pn x ∧ x % 2147483648 ≤ W2 1) : ∀ (s e : Nat), 1 ≤ e → s ≤ W2 e → e + xs.length ≤ 127 → xs.foldl (fA .add .f32) s ≤ W2 (e + xs.length) := by
  induction xs with
  | nil => intro s e _ hs _; exact hs
  | cons a l ih =>
    intro s e he hs hl
    obtain ⟨h1, h2⟩ := h a (List.mem_cons_self ..)
    have hle : W2 1 ≤ W2 e := by unfold W2; omega
    rw [List.length_cons] at hl
    have := ih (fun x hx => h x (List.mem_cons_of_mem _ hx)) _ (e + 1) (by omega) (add_W2 hs h1 (by omega) (by omega)) (by omega)
    rw [List.foldl_cons, List.length_cons, show e + (l.length + 1) = e + 1 + l.length by omega]
    exact this
/-- A sum that is nearly 1 is at most 2. -/
theorem near_le {s : Nat} (hs : s ≤ 2139095040) (h : nearB s = true) : s ≤ W2 1 := by
  have h := of_decide_eq_true h
  by_cases hle : s ≤ W2 1
  · exact hle
  · exfalso
    have hW : W2 1 = 1073741824 := by decide
    obtain ⟨g1, _, q, hq, hc⟩ := sub_one hs
    by_cases hi : s = 2139095040
    · subst hi
      revert h
      decide +kernel
    · have hcs : Ch s := .inl (by omega)
      have h1 : Ch 1065353216 := .inl (by omega)
      obtain ⟨w, u1, u2, _⟩ := sub_spec s_hf hcs.fnt h1.fnt
      obtain ⟨a1, a2⟩ := fA_of (op := .sub) (k := .f32) u1
      rw [a2] at h
      have e1 := hcs.sv
      have e2 := h1.sv
      rw [Nat.mod_eq_of_lt (by omega)] at e1 e2
      have r1 : rv Ieee.single 1065353216 = pv 1 0 := by have := rv_W2 0; rw [show W2 0 = 1065353216 by decide] at this; exact this
      have r2 := rv_W2 1
      rw [hW] at r2
      have r3 : pv 1 ((1 : Nat) : Int) = pv 1 0 + pv 1 0 := by
        rw [← pv_add, show (1 + 1 : Nat) = 1 * 2 ^ 1 from rfl, pv_shift]; rfl
      have r4 := rv_lt Ieee.single (show 1073741824 < s by omega)
      have hpos := pv_nonneg 1 0
      have hge := u2.ge (K := 1065353216) (by rw [s_inf]; omega) (by rw [av_of_nonneg (by rw [e1, e2]; grind), e1, e2]; grind)
      rw [rgs] at hge
      omega
theorem one_le {xs : List Nat} (h : oneB xs = true) : fsum xs ≤ W2 1 := by
  have hp : ∀ x ∈ xs, Pn x := fun x hx => (oneB_ch h x hx).pn
  unfold oneB at h
  rw [Bool.and_eq_true] at h
  exact near_le (fsum_le hp) h.2
theorem one_el {xs : List Nat} (h : oneB xs = true) : ∀ x ∈ xs, Pn x ∧ x % 2147483648 ≤ W2 1 := fun x hx =>
  ⟨(oneB_ch h x hx).pn, Nat.le_trans (le_fsum (fun x hx => (oneB_ch h x hx).pn) x hx) (one_le h)⟩
/-- The sum of a few chances out of a table is finite. -/
theorem few_fin {xs ys : List Nat} (h : oneB xs = true) (hy : ∀ x ∈ ys, x ∈ xs) (hl : ys.length ≤ 64) : fsum ys < 2139095040 := by
  have := foldl_W2 ys (fun x hx => one_el h x (hy x hx)) 0 1 (by omega) (by unfold W2; omega) (by omega)
  have h2 : W2 (1 + ys.length) < 2139095040 := by unfold W2; omega
  unfold fsum; omega

end Go.Proofs.Ytjobgobeiiakgaa
