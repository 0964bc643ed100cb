/- Turns of texts, plain: the order of texts and of their turns. -/
import Derived.Test.YtjobgobeiiakgaaBlk
import Derived.Laws.Strings
namespace Go.Proofs.Ytjobgobeiiakgaa
set_option linter.unusedSimpArgs false
set_option linter.unusedVariables false
open Go.RowKit

theorem u8_ng {a b : UInt8} : (a < b) = (a.toNat < b.toNat) := by rw [UInt8.lt_iff_toNat_lt]
theorem bl_irr (x : List UInt8) : Op.bytesLess x x = false := by
  induction x with
  | nil => rfl
  | cons a x ih => simp [Op.bytesLess, ih]
theorem bl_cons (a b : UInt8) (x y : List UInt8) : Op.bytesLess (a :: x) (b :: y) = (decide (a.toNat < b.toNat) || (decide (a.toNat = b.toNat) && Op.bytesLess x y)) := by
  rw [Op.bytesLess]
  have e1 : decide (a < b) = decide (a.toNat < b.toNat) := by rw [decide_eq_decide, UInt8.lt_iff_toNat_lt]
  have e2 : (a == b) = decide (a.toNat = b.toNat) := by
    by_cases h : a = b
    · simp [h]
    · have : ¬ a.toNat = b.toNat := fun e => h (UInt8.toNat_inj.1 e)
      simp [h, this]
  rw [e1, e2]
theorem bl_nil (y : List UInt8) : Op.bytesLess y [] = false := by cases y <;> rfl
theorem bl_asy (x : List UInt8) : ∀ y, Op.bytesLess x y = true → Op.bytesLess y x = false := by
  induction x with
  | nil => intro y _; exact bl_nil _
  | cons a x ih =>
    intro y h
    cases y with
    | nil => exact absurd h (by simp [Op.bytesLess])
    | cons b y =>
      rw [bl_cons, Bool.or_eq_true, Bool.and_eq_true, decide_eq_true_iff, decide_eq_true_iff] at h
      rw [bl_cons, Bool.or_eq_false_iff, Bool.and_eq_false_iff, decide_eq_false_iff_not, decide_eq_false_iff_not]
      rcases h with h | ⟨h, h2⟩
      · exact ⟨by omega, .inl (by omega)⟩
      · exact ⟨by omega, .inr (ih y h2)⟩
theorem bl_neg (x : List UInt8) : ∀ y z, Op.bytesLess x y = false → Op.bytesLess y z = false → Op.bytesLess x z = false := by
  induction x with
  | nil =>
    intro y z h1 h2
    cases y with
    | nil => exact h2
    | cons b y => simp [Op.bytesLess] at h1
  | cons a x ih =>
    intro y z h1 h2
    cases z with
    | nil => rfl
    | cons c z =>
      cases y with
      | nil => simp [Op.bytesLess] at h2
      | cons b y =>
        rw [bl_cons, Bool.or_eq_false_iff, Bool.and_eq_false_iff, decide_eq_false_iff_not, decide_eq_false_iff_not] at h1 h2 ⊢
        obtain ⟨h1, h3⟩ := h1
        obtain ⟨h2, h4⟩ := h2
        refine ⟨by omega, ?_⟩
        by_cases hac : a.toNat = c.toNat
        · right
          exact ih y z (h3.resolve_left (by omega)) (h4.resolve_left (by omega))
        · exact .inl hac
theorem bl_eq (x : List UInt8) : ∀ y, Op.bytesLess x y = false → Op.bytesLess y x = false → x = y := by
  induction x with
  | nil =>
    intro y h1 h2
    cases y with
    | nil => rfl
    | cons b y => simp [Op.bytesLess] at h1
  | cons a x ih =>
    intro y h1 h2
    cases y with
    | nil => simp [Op.bytesLess] at h2
    | cons b y =>
      rw [bl_cons, Bool.or_eq_false_iff, Bool.and_eq_false_iff, decide_eq_false_iff_not, decide_eq_false_iff_not] at h1 h2
      obtain ⟨h1, h3⟩ := h1
      obtain ⟨h2, h4⟩ := h2
      have e : a.toNat = b.toNat := by omega
      rw [ih y (h3.resolve_left (by omega)) (h4.resolve_left (by omega)), UInt8.toNat_inj.1 e]
/-- A text turned by i places. -/
def rot (l : List UInt8) (i : Nat) : List UInt8 := l.drop i ++ l.take i
theorem rot_length (l : List UInt8) (i : Nat) : (rot l i).length = l.length := by simp [rot]; omega
/-- The turn by x places comes before the one by y places. -/
def ltT (l : List UInt8) (x y : Nat) : Bool := Op.bytesLess (rot l x) (rot l y)
theorem ltT_sw (l : List UInt8) : SW (ltT l) := ⟨fun _ => bl_irr _, fun _ _ _ h1 h2 => bl_neg _ _ _ h1 h2, fun _ _ h => bl_asy _ _ h⟩
/-- The letter at place x comes before the one at place y. -/
def ltB (l : List UInt8) (x y : Nat) : Bool := decide ((l[x]?.getD 0).toNat < (l[y]?.getD 0).toNat)
theorem ltB_sw (l : List UInt8) : SW (ltB l) :=
  ⟨fun _ => by simp [ltB], fun x y z h1 h2 => by simp [ltB] at *; omega, fun x y h => by simp [ltB] at *; omega⟩
/-- What a comparison of texts says. -/
def cmpS (x y : List UInt8) : Int := if Op.bytesLess x y then -1 else if Op.bytesLess y x then 1 else 0
theorem ncmpS (x y : List UInt8) : decide (cmpS x y < 0) = Op.bytesLess x y := by
  unfold cmpS
  cases h : Op.bytesLess x y <;> simp
  split <;> omega
theorem gtr_eq (x y : List UInt8) : (!(Op.bytesLess x y || x == y)) = Op.bytesLess y x := by
  cases h1 : Op.bytesLess x y
  · cases h2 : Op.bytesLess y x
    · have := bl_eq x y h1 h2
      simp [this]
    · have : (x == y) = false := by
        rw [beq_eq_false_iff_ne]
        intro e; subst e
        rw [h1] at h2; cases h2
      simp [this]
  · simp [bl_asy _ _ h1]

/-- The letters before the turns' firsts. -/
def lastL (l : List UInt8) (o : List Nat) : List UInt8 := o.map (fun i => l[(i + l.length - 1) % l.length]?.getD 0)
/-- The order of a text's turns. -/
def ordT (l : List UInt8) : List Nat := ordX (ltT l) id l.length
def out_TurnsOf (s : ByteArray) : ByteArray × Int × Bool :=
  if 1 ≤ s.size ∧ s.size ≤ 64 then (⟨(lastL s.data.toList (ordT s.data.toList)).toArray⟩, ((ordT s.data.toList).idxOf 0 : Nat), true) else (⟨#[]⟩, 0, false)
theorem ordT_perm (l : List UInt8) : (ordT l).Perm (List.range l.length) := by
  have := ordX_perm (ltT l) id l.length
  rwa [List.map_id] at this
/-- The place of 0 in an order. -/
theorem at_zero {o : List Nat} {n : Nat} (h : o.Perm (List.range n)) (hn : 1 ≤ n) : o.idxOf 0 < n ∧ ∀ k, k < n → (o[k]?.getD 0 = 0 ↔ k = o.idxOf 0) := by
  have hm : 0 ∈ o := h.mem_iff.2 (List.mem_range.2 (by omega))
  have hl := perm_len h
  have hlt : o.idxOf 0 < o.length := List.idxOf_lt_length_of_mem hm
  have hnd : o.Nodup := h.nodup_iff.2 List.nodup_range
  refine ⟨by omega, fun k hk => ?_⟩
  rw [List.getElem?_eq_getElem (by omega), Option.getD_some]
  have he := List.getElem_idxOf hlt
  constructor
  · intro h0
    have hpw := List.pairwise_iff_getElem.1 hnd
    rcases Nat.lt_trichotomy k (o.idxOf 0) with h1 | h1 | h1
    · exact absurd (h0.trans he.symm) (hpw k _ (by omega) hlt h1)
    · exact h1
    · exact absurd (he.trans h0.symm) (hpw _ k hlt (by omega) h1)
  · intro h0
    subst h0
    exact he
theorem ba_lt (s : ByteArray) : s.data.toList.length = s.size := Array.length_toList
theorem ba_et (s : ByteArray) : (⟨s.data.toList.toArray⟩ : ByteArray) = s := by cases s; simp
/-- Bytes as values. -/
abbrev bys (l : List UInt8) : List Value := l.map (fun x : UInt8 => Value.int .u8 (x.toNat : Int))
theorem ba_getD (l : List UInt8) (r : Nat) (h : r < l.length) : l[r]?.getD 0 = (⟨l.toArray⟩ : ByteArray)[r]'(by show r < l.toArray.size; simpa using h) := by
  rw [List.getElem?_eq_getElem h]; rfl

end Go.Proofs.Ytjobgobeiiakgaa
