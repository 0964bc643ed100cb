/- Texts that are made of words in two ways: plain. -/
import Derived.Test.YtjobgobeiiakgaaDoorPfx2
import Derived.Sort.KeysCollected
namespace Go.Proofs.YtjobgobeiiakgaaDoor
set_option linter.unusedSimpArgs false
set_option linter.unusedVariables false
open Go.RowKit
open Go.Maps (Keyed Tidy IsMap has size)

/-- The letters are bits. -/
def Bits (t : List UInt8) : Prop := ∀ c ∈ t, c = 48 ∨ c = 49
theorem Bits.app {a b : List UInt8} (ha : Bits a) (hb : Bits b) : Bits (a ++ b) := fun c hc => (List.mem_append.1 hc).elim (ha c) (hb c)
theorem Bits.drop {a : List UInt8} (ha : Bits a) (n : Nat) : Bits (a.drop n) := fun c hc => ha c (List.mem_of_mem_drop hc)
/-- The number of a 1 and the bits. -/
def rkA (a : Nat) : List UInt8 → Nat
  | [] => a
  | c :: r => rkA (2 * a + (if c = 49 then 1 else 0)) r
def rk (t : List UInt8) : Nat := rkA 1 t
theorem rkA_lo (a : Nat) : ∀ t : List UInt8, a * 2 ^ t.length ≤ rkA a t ∧ rkA a t < (a + 1) * 2 ^ t.length
  | [] => by simp [rkA]
  | c :: r => by
    have h := rkA_lo (2 * a + (if c = 49 then 1 else 0)) r
    show a * 2 ^ (r.length + 1) ≤ rkA _ r ∧ rkA _ r < (a + 1) * 2 ^ (r.length + 1)
    rw [Nat.pow_succ]
    generalize 2 ^ r.length = P at *
    have e1 : a * (P * 2) = (2 * a) * P := by rw [Nat.mul_comm P 2, ← Nat.mul_assoc, Nat.mul_comm a 2]
    have e2 : (a + 1) * (P * 2) = (2 * a + 2) * P := by rw [Nat.mul_comm P 2, ← Nat.mul_assoc]; congr 1; omega
    rw [e1, e2]
    have m1 : (2 * a) * P ≤ (2 * a + (if c = 49 then 1 else 0)) * P := Nat.mul_le_mul_right _ (by omega)
    have m2 : (2 * a + (if c = 49 then 1 else 0) + 1) * P ≤ (2 * a + 2) * P := Nat.mul_le_mul_right _ (by split <;> omega)
    omega
theorem rkA_app (a : Nat) (s : List UInt8) : ∀ t : List UInt8, rkA a (t ++ s) = rkA (rkA a t) s := by
  intro t
  induction t generalizing a with
  | nil => rfl
  | cons c r ih => exact ih _
theorem rkA_mono (s : List UInt8) : ∀ a b : Nat, a ≤ b → rkA a s ≤ rkA b s := by
  induction s with
  | nil => intro a b h; exact h
  | cons c r ih => intro a b h; exact ih _ _ (by omega)
theorem rkA_lt (s : List UInt8) (a b : Nat) (h : a < b) : rkA a s < rkA b s := by
  have h1 := (rkA_lo a s).2
  have h2 := (rkA_lo b s).1
  have h3 : (a + 1) * 2 ^ s.length ≤ b * 2 ^ s.length := Nat.mul_le_mul_right _ h
  omega
theorem rk_app {a b : List UInt8} (s : List UInt8) (h : rk a ≤ rk b) : rk (a ++ s) ≤ rk (b ++ s) := by
  unfold rk at *
  rw [rkA_app, rkA_app]
  exact rkA_mono s _ _ h
theorem rk_le_app (a s : List UInt8) : rk a ≤ rk (a ++ s) := by
  unfold rk
  rw [rkA_app]
  have h := (rkA_lo (rkA 1 a) s).1
  have : 1 ≤ 2 ^ s.length := Nat.one_le_two_pow
  have := Nat.mul_le_mul_left (rkA 1 a) this
  omega
theorem rk_lo (t : List UInt8) : 2 ^ t.length ≤ rk t ∧ rk t < 2 ^ (t.length + 1) := by
  have h := rkA_lo 1 t
  unfold rk
  rw [Nat.pow_succ]
  omega
theorem rk_len {a b : List UInt8} (h : rk a ≤ rk b) : a.length ≤ b.length := by
  rcases Nat.lt_or_ge b.length a.length with h1 | h1
  · have h2 := (rk_lo a).1
    have h3 := (rk_lo b).2
    have h4 : 2 ^ (b.length + 1) ≤ 2 ^ a.length := Nat.pow_le_pow_right (by omega) h1
    omega
  · exact h1
theorem bytesLess_rk {a b : List UInt8} (ha : Bits a) (hb : Bits b) (hl : a.length = b.length) (n : Nat) : Op.bytesLess a b = true ↔ rkA n a < rkA n b := by
  induction a generalizing b n with
  | nil =>
    cases b with
    | nil => simp [Op.bytesLess, rkA]
    | cons d y => simp at hl
  | cons c x ih =>
    cases b with
    | nil => simp at hl
    | cons d y =>
      have hl2 : x.length = y.length := by simpa using hl
      have hx : Bits x := fun z hz => ha z (List.mem_cons_of_mem _ hz)
      have hy : Bits y := fun z hz => hb z (List.mem_cons_of_mem _ hz)
      have far : ∀ m, rkA (2 * m) x < rkA (2 * m + 1) y := fun m => by
        have h1 := (rkA_lo (2 * m) x).2
        have h2 := (rkA_lo (2 * m + 1) y).1
        rw [hl2] at h1
        omega
      rcases ha c (List.mem_cons_self ..) with rfl | rfl <;> rcases hb d (List.mem_cons_self ..) with rfl | rfl
      · have := ih hx hy hl2 (2 * n)
        simpa [Op.bytesLess, rkA] using this
      · have h1 := far n
        simp [Op.bytesLess, rkA, h1]
      · have h1 : rkA (2 * n) y < rkA (2 * n + 1) x := by
          have h1 := (rkA_lo (2 * n) y).2
          have h2 := (rkA_lo (2 * n + 1) x).1
          rw [← hl2] at h1
          omega
        simp [Op.bytesLess, rkA]
        omega
      · have := ih hx hy hl2 (2 * n + 1)
        simpa [Op.bytesLess, rkA] using this
theorem bef_rk {a b : List UInt8} (ha : Bits a) (hb : Bits b) : bef a b = true ↔ rk a < rk b := by
  unfold bef
  rw [Bool.or_eq_true, Bool.and_eq_true, decide_eq_true_iff, decide_eq_true_iff]
  constructor
  · rintro (h | ⟨h1, h2⟩)
    · have h2 := (rk_lo a).2
      have h3 := (rk_lo b).1
      have h4 : 2 ^ (a.length + 1) ≤ 2 ^ b.length := Nat.pow_le_pow_right (by omega) h
      omega
    · exact (bytesLess_rk ha hb h1 1).1 h2
  · intro h
    have h1 := rk_len (Nat.le_of_lt h)
    by_cases he : a.length = b.length
    · exact .inr ⟨he, (bytesLess_rk ha hb he 1).2 h⟩
    · exact .inl (by omega)
theorem rkA_inj {a b : List UInt8} (ha : Bits a) (hb : Bits b) (hl : a.length = b.length) (n : Nat) (h : rkA n a = rkA n b) : a = b := by
  induction a generalizing b n with
  | nil => cases b with
    | nil => rfl
    | cons d y => simp at hl
  | cons c x ih =>
    cases b with
    | nil => simp at hl
    | cons d y =>
      have hl2 : x.length = y.length := by simpa using hl
      have hx : Bits x := fun z hz => ha z (List.mem_cons_of_mem _ hz)
      have hy : Bits y := fun z hz => hb z (List.mem_cons_of_mem _ hz)
      have hcd : c = d := by
        have h1 := rkA_lo (2 * n) x
        have h2 := rkA_lo (2 * n + 1) x
        have h3 := rkA_lo (2 * n) y
        have h4 := rkA_lo (2 * n + 1) y
        rw [hl2] at h1 h2
        rcases ha c (List.mem_cons_self ..) with rfl | rfl <;> rcases hb d (List.mem_cons_self ..) with rfl | rfl
        · rfl
        · simp [rkA] at h; omega
        · simp [rkA] at h; omega
        · rfl
      subst hcd
      rw [ih hx hy hl2 _ h]
theorem rk_inj {a b : List UInt8} (ha : Bits a) (hb : Bits b) (h : rk a = rk b) : a = b :=
  rkA_inj ha hb (Nat.le_antisymm (rk_len (Nat.le_of_eq h)) (rk_len (Nat.le_of_eq h.symm))) 1 h

/-- What a word makes of a rest: the next rest, what is added to the text. -/
def fol (w r : List UInt8) : Option (List UInt8 × List UInt8) :=
  if w.isPrefixOf r then some (r.drop w.length, []) else if r.isPrefixOf w then some (w.drop r.length, w.drop r.length) else none
/-- The rests that come, with their texts. -/
inductive Way (ws : List ByteArray) : List UInt8 → List UInt8 → Prop
  | init (i k : Nat) (hi : i < ws.length) (hk : k < ws.length) (h : pfx ws i k = true) : Way ws ((wbx ws k).drop (wbx ws i).length) (wbx ws k)
  | step (r t : List UInt8) (h : Way ws r t) (hr : r ≠ []) (k : Nat) (hk : k < ws.length) (nx more : List UInt8) (hf : fol (wbx ws k) r = some (nx, more)) : Way ws nx (t ++ more)
/-- The end of a word. -/
def Suf (ws : List ByteArray) (r : List UInt8) : Prop := ∃ k, k < ws.length ∧ r <:+ wbx ws k
theorem fol_suf {ws : List ByteArray} {r nx more : List UInt8} {k : Nat} (hk : k < ws.length) (hr : Suf ws r) (h : fol (wbx ws k) r = some (nx, more)) : Suf ws nx := by
  unfold fol at h
  split at h
  · cases h
    obtain ⟨j, hj, hs⟩ := hr
    exact ⟨j, hj, (List.drop_suffix _ _).trans hs⟩
  · split at h
    · cases h
      exact ⟨k, hk, List.drop_suffix _ _⟩
    · cases h
theorem way_suf {ws : List ByteArray} {r t : List UInt8} (h : Way ws r t) : Suf ws r := by
  induction h with
  | init i k hi hk h => exact ⟨k, hk, List.drop_suffix _ _⟩
  | step r t h hr k hk nx more hf ih => exact fol_suf hk ih hf
/-- All words are of bits. -/
def WBits (ws : List ByteArray) : Prop := ∀ k, Bits (wbx ws k) ∧ (wbx ws k).length ≤ 32
theorem suf_bits {ws : List ByteArray} (hw : WBits ws) {r : List UInt8} (h : Suf ws r) : Bits r ∧ r.length ≤ 32 := by
  obtain ⟨k, hk, hs⟩ := h
  exact ⟨fun c hc => (hw k).1 c (hs.subset hc), Nat.le_trans hs.length_le (hw k).2⟩
theorem fol_more {ws : List ByteArray} (hw : WBits ws) {r nx more : List UInt8} {k : Nat} (h : fol (wbx ws k) r = some (nx, more)) : Bits more ∧ more.length ≤ 32 := by
  unfold fol at h
  split at h
  · cases h
    exact ⟨fun c hc => (by cases hc), by simp⟩
  · split at h
    · cases h
      exact ⟨(hw k).1.drop _, by have := (hw k).2; rw [List.length_drop]; omega⟩
    · cases h
theorem way_bits {ws : List ByteArray} (hw : WBits ws) {r t : List UInt8} (h : Way ws r t) : Bits t := by
  induction h with
  | init i k hi hk h => exact (hw k).1
  | step r t h hr k hk nx more hf ih => exact ih.app (fol_more hw hf).1

/-- The texts that are made in two ways, the first of the shortest. -/
def isMin (ws : List ByteArray) (t : List UInt8) : Prop := Way ws [] t ∧ ∀ u, Way ws [] u → rk t ≤ rk u
theorem isMin_one {ws : List ByteArray} (hw : WBits ws) {t u : List UInt8} (h : isMin ws t) (h2 : isMin ws u) : t = u :=
  rk_inj (way_bits hw h.1) (way_bits hw h2.1) (Nat.le_antisymm (h.2 u h2.1) (h2.2 t h.1))
theorem exists_min {ws : List ByteArray} (h : ∃ t, Way ws [] t) : ∃ t, isMin ws t := by
  obtain ⟨t, ht⟩ := h
  generalize hn : rk t = n
  induction n using Nat.strongRecOn generalizing t with
  | _ n ih =>
    by_cases hh : ∃ u, Way ws [] u ∧ rk u < n
    · obtain ⟨u, hu, hl⟩ := hh
      exact ih (rk u) hl u hu rfl
    · refine ⟨t, ht, fun u hu => ?_⟩
      rw [hn]
      exact Nat.le_of_not_lt fun hl => hh ⟨u, hu, hl⟩
theorem wsOk_bits {ws : List ByteArray} (h : wsOk ws = true) : WBits ws := by
  obtain ⟨_, _, h3⟩ := wsOk_parts h
  intro k
  by_cases hk : k < ws.length
  · have h4 := h3 k hk
    refine ⟨?_, (wOk_len h4).2⟩
    unfold wOkAt at h4
    simp only [Bool.and_eq_true] at h4
    have h5 := h4.1.1
    unfold bitsOk at h5
    simp only [Bool.and_eq_true] at h5
    intro c hc
    have := List.all_eq_true.1 h5.2 c hc
    simpa [isBit] using this
  · have : wbx ws k = [] := by
      unfold wbx
      rw [List.getElem?_eq_none (by omega)]; rfl
    rw [this]
    exact ⟨fun c hc => (by cases hc), by simp⟩
open Classical in
noncomputable def out_IsUnique (ws : List ByteArray) : Bool × Bool := if wsOk ws then (!decide (∃ t, Way ws [] t), true) else (false, false)
open Classical in
noncomputable def out_TwoReadings (ws : List ByteArray) : ByteArray × Bool := if h : wsOk ws = true ∧ ∃ t, isMin ws t ∧ t.length ≤ 32 then (⟨(Classical.choose h.2).toArray⟩, true) else (⟨#[]⟩, false)
theorem outU_no {ws : List ByteArray} (h : wsOk ws = false) : out_IsUnique ws = (false, false) := by unfold out_IsUnique; rw [h]; rfl
theorem outU_two {ws : List ByteArray} (h : wsOk ws = true) (h2 : ∃ t, Way ws [] t) : out_IsUnique ws = (false, true) := by
  unfold out_IsUnique; rw [h]; simp [h2]
theorem outU_one {ws : List ByteArray} (h : wsOk ws = true) (h2 : ¬ ∃ t, Way ws [] t) : out_IsUnique ws = (true, true) := by
  unfold out_IsUnique; rw [h]; simp [h2]
theorem outT_no {ws : List ByteArray} (h : wsOk ws = false) : out_TwoReadings ws = (⟨#[]⟩, false) := by
  unfold out_TwoReadings
  rw [dif_neg (by rw [h]; simp)]
theorem outT_none {ws : List ByteArray} (h2 : ¬ ∃ t, isMin ws t ∧ t.length ≤ 32) : out_TwoReadings ws = (⟨#[]⟩, false) := by
  unfold out_TwoReadings
  rw [dif_neg (fun e => h2 e.2)]
theorem outT_some {ws : List ByteArray} (h : wsOk ws = true) {t : List UInt8} (ht : isMin ws t) (hl : t.length ≤ 32) : out_TwoReadings ws = (⟨t.toArray⟩, true) := by
  have hx : wsOk ws = true ∧ ∃ t, isMin ws t ∧ t.length ≤ 32 := ⟨h, t, ht, hl⟩
  unfold out_TwoReadings
  rw [dif_pos hx, isMin_one (wsOk_bits h) (Classical.choose_spec hx.2).1 ht]

end Go.Proofs.YtjobgobeiiakgaaDoor
