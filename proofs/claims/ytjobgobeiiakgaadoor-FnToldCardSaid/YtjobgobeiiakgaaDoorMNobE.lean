/- Numbers read back from their bits: plain. -/
import Derived.Test.YtjobgobeiiakgaaDoorMFib3
import Derived.Test.YtjobgobeiiakgaaDoorMRic
import Derived.Test.YtjobgobeiiakgaaDoorMDlt
namespace Go.Proofs.YtjobgobeiiakgaaDoor
set_option linter.unusedSimpArgs false
set_option linter.unusedVariables false
open Go.RowKit

/-- How many letters at the beginning are c. -/
def lead (c : UInt8) : List UInt8 → Nat
  | [] => 0
  | x :: r => if x = c then lead c r + 1 else 0
/-- How many letters at the beginning are others than c. -/
def untl (c : UInt8) : List UInt8 → Nat
  | [] => 0
  | x :: r => if x = c then 0 else untl c r + 1
theorem lead_rep (c x : UInt8) (h : x ≠ c) (t : List UInt8) : ∀ m, lead c (List.replicate m c ++ x :: t) = m
  | 0 => by show (if x = c then _ else _) = _; rw [if_neg h]
  | m + 1 => by
    rw [List.replicate_succ, List.cons_append]
    show (if c = c then _ else _) = _
    rw [if_pos rfl, lead_rep c x h t m]
theorem untl_rep (c x : UInt8) (h : c ≠ x) (t : List UInt8) : ∀ m, untl x (List.replicate m c ++ x :: t) = m
  | 0 => by show (if x = x then _ else _) = _; rw [if_pos rfl]
  | m + 1 => by
    rw [List.replicate_succ, List.cons_append]
    show (if c = x then _ else _) = _
    rw [if_neg h, untl_rep c x h t m]
theorem lead_le (c : UInt8) : ∀ l, lead c l ≤ l.length
  | [] => Nat.zero_le _
  | x :: r => by
    have := lead_le c r
    unfold lead
    split <;> simp <;> omega
theorem untl_le (c : UInt8) : ∀ l, untl c l ≤ l.length
  | [] => Nat.zero_le _
  | x :: r => by
    have := untl_le c r
    unfold untl
    split <;> simp <;> omega
def bit (c : UInt8) : Nat := if c = 49 then 1 else 0
/-- The number of binary digits. -/
def valA (a : Nat) : List UInt8 → Nat
  | [] => a
  | c :: r => valA (2 * a + bit c) r
/-- The number of d binary digits, those that are missing being 0. -/
def vpA (a : Nat) : List UInt8 → Nat → Nat
  | _, 0 => a
  | [], d + 1 => vpA (2 * a) [] d
  | c :: r, d + 1 => vpA (2 * a + bit c) r d
theorem vpA_app (t : List UInt8) : ∀ (l : List UInt8) (a : Nat), vpA a (l ++ t) l.length = valA a l
  | [], a => by cases t <;> rfl
  | c :: r, a => by
    show vpA (2 * a + bit c) (r ++ t) r.length = _
    rw [vpA_app t r]; rfl
theorem digs_cons (x d : Nat) : digs x (d + 1) = dig x d :: digs x d := by
  apply List.ext_getElem?
  intro i
  cases i with
  | zero => rw [digs_get _ _ _ (by omega)]; simp
  | succ i =>
    by_cases h : i < d
    · rw [digs_get _ _ _ (by omega), List.getElem?_cons_succ, digs_get _ _ _ h, show d + 1 - 1 - (i + 1) = d - 1 - i by omega]
    · rw [List.getElem?_eq_none (by rw [digs_length]; omega), List.getElem?_eq_none (by rw [List.length_cons, digs_length]; omega)]
theorem bit_dig (x d : Nat) : bit (dig x d) = x / 2 ^ d % 2 := by
  unfold bit dig
  by_cases h : x / 2 ^ d % 2 = 1
  · rw [if_pos h, if_pos rfl, h]
  · rw [if_neg h, if_neg (by decide)]; omega
theorem valA_digs (x : Nat) : ∀ d a, valA a (digs x d) = a * 2 ^ d + x % 2 ^ d
  | 0, a => by
    show a = _
    simp [Nat.mod_one]
  | d + 1, a => by
    rw [digs_cons]
    show valA (2 * a + bit (dig x d)) (digs x d) = _
    rw [valA_digs x d, bit_dig, Nat.mod_pow_succ, Nat.pow_succ, Nat.add_mul, Nat.mul_comm (2 ^ d) (x / 2 ^ d % 2), show 2 * a * 2 ^ d = a * (2 ^ d * 2) by rw [Nat.mul_comm 2 a, Nat.mul_assoc, Nat.mul_comm 2]]
    omega
theorem lt_blen {n : Nat} : n < 2 ^ blen n := by
  unfold blen
  split
  · subst_vars; decide
  · exact Nat.lt_log2_self
theorem val_blen (n : Nat) : valA 0 (digs n (blen n)) = n := by
  rw [valA_digs, Nat.mod_eq_of_lt lt_blen]; omega
theorem top_dig {n : Nat} (h : 1 ≤ n) : dig n (blen n - 1) = 49 := by
  have h0 : n ≠ 0 := by omega
  have e : blen n - 1 = n.log2 := by unfold blen; rw [if_neg h0]; omega
  rw [e]
  apply dig_one
  have h1 := Nat.log2_self_le h0
  have h2 : n < 2 ^ (n.log2 + 1) := Nat.lt_log2_self
  rw [Nat.pow_succ] at h2
  have h3 : n / 2 ^ n.log2 = 1 := by
    apply Nat.div_eq_of_lt_le
    · omega
    · omega
  rw [h3]
theorem digs_blen {n : Nat} (h : 1 ≤ n) : digs n (blen n) = 49 :: digs n (blen n - 1) := by
  have hp := blen_pos n h
  obtain ⟨d, hd⟩ : ∃ d, blen n = d + 1 := ⟨blen n - 1, by omega⟩
  have ht := top_dig h
  rw [hd] at ht ⊢
  rw [digs_cons]
  rw [show d + 1 - 1 = d from rfl] at ht ⊢
  rw [ht]
theorem val_short {n : Nat} (h : 1 ≤ n) : n = 2 ^ (blen n - 1) + valA 0 (digs n (blen n - 1)) := by
  have h1 := val_blen n
  rw [digs_blen h] at h1
  have h2 : valA 0 (49 :: digs n (blen n - 1)) = valA 1 (digs n (blen n - 1)) := rfl
  rw [h2, valA_digs] at h1
  rw [valA_digs]
  omega

end Go.Proofs.YtjobgobeiiakgaaDoor

/- Numbers read back from their bits: the only number with which a text can begin. -/
namespace Go.Proofs.YtjobgobeiiakgaaDoor
set_option linter.unusedSimpArgs false
set_option linter.unusedVariables false
open Go.RowKit

/-- The text of a number of a kind. -/
def numT (kind k n : Int) : ByteArray × Bool :=
  if kind = 0 then out_UnaryOf n else if kind = 1 then out_GammaOf n else if kind = 2 then out_DeltaOf n else if kind = 3 then out_FibonacciOf n else out_RiceOf n k
/-- v is the only number whose text can be at the beginning of r. -/
def Cand (kind k : Int) (r : List UInt8) (v : Int) : Prop := ∀ n, (numT kind k n).2 = true → (numT kind k n).1.data.toList <+: r → v = n
def numI (l : List UInt8) : Nat := if 20 < l.length then 0 else valA 0 l
theorem take_app (a b : List UInt8) : (a ++ b).take a.length = a := by simp
theorem drop_app (a b : List UInt8) : (a ++ b).drop a.length = b := by simp
theorem numI_of {l : List UInt8} (h : l.length ≤ 20) : numI l = valA 0 l := by unfold numI; rw [if_neg (by omega)]
theorem unary_r {n : Int} {k : Int} {r : List UInt8} (h : (numT 0 k n).2 = true) (hp : (numT 0 k n).1.data.toList <+: r) : ∃ m t, n = ((m + 1 : Nat) : Int) ∧ r = List.replicate m 49 ++ 48 :: t := by
  have e : numT 0 k n = out_UnaryOf n := rfl
  rw [e] at h hp
  unfold out_UnaryOf at h hp
  by_cases hb : inB n 1 512 = true
  · rw [if_pos hb] at hp
    obtain ⟨h1, h2⟩ := inB_true hb
    obtain ⟨t, ht⟩ := hp
    refine ⟨n.toNat - 1, t, by omega, ?_⟩
    rw [← ht]
    simp [unaryT]
  · rw [if_neg hb] at h; cases h
theorem cand0_i (k : Int) (r : List UInt8) : Cand 0 k r ((lead 49 r : Nat) + 1 : Int) := by
  intro n h hp
  obtain ⟨m, t, rfl, rfl⟩ := unary_r h hp
  rw [lead_rep 49 48 (by decide)]; omega
theorem cand0_s (k : Int) (r : List UInt8) : Cand 0 k r ((untl 48 r : Nat) + 1 : Int) := by
  intro n h hp
  obtain ⟨m, t, rfl, rfl⟩ := unary_r h hp
  rw [untl_rep 49 48 (by decide)]; omega
theorem num_r {T : Nat → List UInt8} {n : Int} {r : List UInt8} (h : (outNum n T).2 = true) (hp : (outNum n T).1.data.toList <+: r) : ∃ m t, n = ((m : Nat) : Int) ∧ 1 ≤ m ∧ m ≤ 1000000 ∧ r = T m ++ t := by
  unfold outNum at h hp
  by_cases hb : inB n 1 1000000 = true
  · rw [if_pos hb] at hp
    obtain ⟨h1, h2⟩ := inB_true hb
    obtain ⟨t, ht⟩ := hp
    exact ⟨n.toNat, t, by omega, by omega, by omega, by rw [← ht]⟩
  · rw [if_neg hb] at h; cases h
theorem gamma_r {m : Nat} (h : 1 ≤ m) (t : List UInt8) : gammaT m ++ t = List.replicate (blen m - 1) 48 ++ 49 :: (digs m (blen m - 1) ++ t) := by
  unfold gammaT
  rw [digs_blen h, List.append_assoc, List.cons_append]
theorem gamma_drop {m : Nat} (h : 1 ≤ m) (t : List UInt8) : (gammaT m ++ t).drop (blen m - 1) = digs m (blen m) ++ t := by
  rw [gamma_r h]
  have := drop_app (List.replicate (blen m - 1) 48) (49 :: (digs m (blen m - 1) ++ t))
  rw [List.length_replicate] at this
  rw [this, digs_blen h]; rfl
theorem gamma_take {m : Nat} (h : 1 ≤ m) (hm : m ≤ 1000000) (t : List UInt8) : numI ((digs m (blen m) ++ t).take (blen m - 1 + 1)) = m := by
  have hb := blen_le m 20 (by omega)
  have hp := blen_pos m h
  have := take_app (digs m (blen m)) t
  rw [digs_length] at this
  rw [show blen m - 1 + 1 = blen m by omega, this, numI_of (by rw [digs_length]; exact hb), val_blen]
theorem gamma_vp {m : Nat} (h : 1 ≤ m) (t : List UInt8) : vpA 0 (digs m (blen m) ++ t) (blen m - 1 + 1) = m := by
  have hp := blen_pos m h
  have := vpA_app t (digs m (blen m)) 0
  rw [digs_length] at this
  rw [show blen m - 1 + 1 = blen m by omega, this, val_blen]
theorem cand1_i (k : Int) (r : List UInt8) : Cand 1 k r ((numI ((r.drop (lead 48 r)).take (lead 48 r + 1)) : Nat) : Int) := by
  intro n h hp
  obtain ⟨m, t, rfl, h1, h2, rfl⟩ := num_r (T := gammaT) h hp
  have hz : lead 48 (gammaT m ++ t) = blen m - 1 := by rw [gamma_r h1, lead_rep 48 49 (by decide)]
  rw [hz, gamma_drop h1, gamma_take h1 h2]
theorem cand1_s (k : Int) (r : List UInt8) : Cand 1 k r ((vpA 0 (r.drop (min (untl 49 r) 25)) (min (untl 49 r) 25 + 1) : Nat) : Int) := by
  intro n h hp
  obtain ⟨m, t, rfl, h1, h2, rfl⟩ := num_r (T := gammaT) h hp
  have hb := blen_le m 20 (by omega)
  have hz : min (untl 49 (gammaT m ++ t)) 25 = blen m - 1 := by rw [gamma_r h1, untl_rep 48 49 (by decide)]; omega
  rw [hz, gamma_drop h1, gamma_vp h1]
theorem delta_drop {m : Nat} (h : 1 ≤ m) (t : List UInt8) : (deltaT m ++ t).drop (2 * (blen (blen m) - 1) + 1) = digs m (blen m - 1) ++ t := by
  have hp := blen_pos m h
  have hpp := blen_pos (blen m) hp
  unfold deltaT
  rw [List.append_assoc, show 2 * (blen (blen m) - 1) + 1 = (blen (blen m) - 1) + blen (blen m) by omega, ← List.drop_drop, gamma_drop hp]
  have := drop_app (digs (blen m) (blen (blen m))) (digs m (blen m - 1) ++ t)
  rw [digs_length] at this
  exact this
def gd2_i (r : List UInt8) : Nat :=
  if numI ((r.drop (lead 48 r)).take (lead 48 r + 1)) < 1 ∨ 20 < numI ((r.drop (lead 48 r)).take (lead 48 r + 1)) then 0
  else numI (49 :: (r.drop (min r.length (2 * lead 48 r + 1))).take (numI ((r.drop (lead 48 r)).take (lead 48 r + 1)) - 1))
def gd2_s (r : List UInt8) : Nat :=
  if min (vpA 0 (r.drop (min (untl 49 r) 5)) (min (untl 49 r) 5 + 1)) 25 < 1 then 0
  else 2 ^ (min (vpA 0 (r.drop (min (untl 49 r) 5)) (min (untl 49 r) 5 + 1)) 25 - 1) + vpA 0 (r.drop (2 * min (untl 49 r) 5 + 1)) (min (vpA 0 (r.drop (min (untl 49 r) 5)) (min (untl 49 r) 5 + 1)) 25 - 1)
theorem drop_min (r : List UInt8) (k : Nat) : r.drop (min r.length k) = r.drop k := by
  by_cases h : r.length ≤ k
  · rw [Nat.min_eq_left h, List.drop_length, List.drop_of_length_le h]
  · rw [Nat.min_eq_right (by omega)]
theorem cand2_i (k : Int) (r : List UInt8) : Cand 2 k r ((gd2_i r : Nat) : Int) := by
  intro n h hp
  obtain ⟨m, t, rfl, h1, h2, rfl⟩ := num_r (T := deltaT) h hp
  have hb := blen_le m 20 (by omega)
  have hp := blen_pos m h1
  have hg : deltaT m ++ t = gammaT (blen m) ++ (digs m (blen m - 1) ++ t) := by unfold deltaT; rw [List.append_assoc]
  have hz : lead 48 (deltaT m ++ t) = blen (blen m) - 1 := by rw [hg, gamma_r hp, lead_rep 48 49 (by decide)]
  have hl : numI (((deltaT m ++ t).drop (lead 48 (deltaT m ++ t))).take (lead 48 (deltaT m ++ t) + 1)) = blen m := by
    rw [hz, hg, gamma_drop hp, gamma_take hp (by omega)]
  unfold gd2_i
  rw [hl, if_neg (by omega), drop_min, hz, delta_drop h1]
  have ht := take_app (digs m (blen m - 1)) t
  rw [digs_length] at ht
  rw [ht, ← digs_blen h1, numI_of (by rw [digs_length]; exact hb), val_blen]
theorem cand2_s (k : Int) (r : List UInt8) : Cand 2 k r ((gd2_s r : Nat) : Int) := by
  intro n h hp
  obtain ⟨m, t, rfl, h1, h2, rfl⟩ := num_r (T := deltaT) h hp
  have hb := blen_le m 20 (by omega)
  have hbb := blen_le (blen m) 5 (by omega)
  have hp := blen_pos m h1
  have hg : deltaT m ++ t = gammaT (blen m) ++ (digs m (blen m - 1) ++ t) := by unfold deltaT; rw [List.append_assoc]
  have hz : min (untl 49 (deltaT m ++ t)) 5 = blen (blen m) - 1 := by rw [hg, gamma_r hp, untl_rep 48 49 (by decide)]; omega
  have hl : min (vpA 0 ((deltaT m ++ t).drop (min (untl 49 (deltaT m ++ t)) 5)) (min (untl 49 (deltaT m ++ t)) 5 + 1)) 25 = blen m := by
    rw [hz, hg, gamma_drop hp, gamma_vp hp]; omega
  unfold gd2_s
  rw [hl, if_neg (by omega), hz, delta_drop h1]
  have ht := vpA_app t (digs m (blen m - 1)) 0
  rw [digs_length] at ht
  rw [ht, ← val_short h1]
theorem rice_r {n k : Int} {r : List UInt8} (h : (numT 4 k n).2 = true) (hp : (numT 4 k n).1.data.toList <+: r) :
    ∃ (x q : Nat) (t : List UInt8), n = (x : Int) + 1 ∧ k = (q : Int) ∧ q ≤ 20 ∧ r = List.replicate (x / 2 ^ q) 49 ++ 48 :: (digs x q ++ t) := by
  have e : numT 4 k n = out_RiceOf n k := rfl
  rw [e] at h hp
  unfold out_RiceOf at h hp
  by_cases hb : (inB n 1 1000000 && inB k 0 20) = true
  · rw [if_pos hb] at h hp
    rw [Bool.and_eq_true] at hb
    obtain ⟨h1, h2⟩ := inB_true hb.1
    obtain ⟨h3, h4⟩ := inB_true hb.2
    unfold riceO at h hp
    by_cases hq : (n.toNat - 1) / 2 ^ k.toNat < 512
    · rw [if_pos hq] at h hp
      simp only [decide_eq_true_eq] at h
      rw [if_pos h] at hp
      obtain ⟨t, ht⟩ := hp
      refine ⟨n.toNat - 1, k.toNat, t, by omega, by omega, by omega, ?_⟩
      rw [← ht]
      simp [riceT, unaryT]
    · rw [if_neg hq] at h; cases h
  · rw [if_neg hb] at h; cases h
theorem drop_one_past (m : Nat) (t : List UInt8) : (List.replicate m (49 : UInt8) ++ 48 :: t).drop (m + 1) = t := by
  rw [← List.drop_drop]
  have := drop_app (List.replicate m 49) (48 :: t)
  rw [List.length_replicate] at this
  rw [this]; rfl
theorem div_mod_back (x q : Nat) : x / 2 ^ q * 2 ^ q + x % 2 ^ q = x := by rw [Nat.mul_comm]; exact Nat.div_add_mod x (2 ^ q)
theorem cand4_i (k : Nat) (r : List UInt8) : Cand 4 k r ((lead 49 r * 2 ^ k + numI ((r.drop (min r.length (lead 49 r + 1))).take k) + 1 : Nat) : Int) := by
  intro n h hp
  obtain ⟨x, q, t, rfl, hk, hq, rfl⟩ := rice_r h hp
  obtain rfl : k = q := by omega
  have ht := take_app (digs x k) t
  rw [digs_length] at ht
  rw [lead_rep 49 48 (by decide), drop_min, drop_one_past, ht, numI_of (by rw [digs_length]; exact hq), valA_digs, Nat.zero_mul, Nat.zero_add, div_mod_back]
  omega
theorem cand4_s (k : Nat) (r : List UInt8) : Cand 4 k r ((untl 48 r * 2 ^ k + vpA 0 (r.drop (untl 48 r + 1)) k + 1 : Nat) : Int) := by
  intro n h hp
  obtain ⟨x, q, t, rfl, hk, hq, rfl⟩ := rice_r h hp
  obtain rfl : k = q := by omega
  have ht := vpA_app t (digs x k) 0
  rw [digs_length] at ht
  rw [untl_rep 49 48 (by decide), drop_one_past, ht, valA_digs, Nat.zero_mul, Nat.zero_add, div_mod_back]
  omega

end Go.Proofs.YtjobgobeiiakgaaDoor

/- Numbers read back from their bits: what comes of a text, plain. -/
namespace Go.Proofs.YtjobgobeiiakgaaDoor
set_option linter.unusedSimpArgs false
set_option linter.unusedVariables false
open Go.RowKit

def txN (kind k v : Int) : List UInt8 := (numT kind k v).1.data.toList
open Classical in
/-- The number with which a text begins. -/
noncomputable def stp (kind k : Int) (r : List UInt8) : Option Int := if h : ∃ n, (numT kind k n).2 = true ∧ txN kind k n <+: r then some (Classical.choose h) else none
theorem stp_is {kind k : Int} {r : List UInt8} {v : Int} (h : stp kind k r = some v) : (numT kind k v).2 = true ∧ txN kind k v <+: r := by
  unfold stp at h
  split at h
  · rename_i hx
    cases h
    exact Classical.choose_spec hx
  · cases h
theorem stp_some {kind k : Int} {r : List UInt8} {v : Int} (hc : Cand kind k r v) (h1 : (numT kind k v).2 = true) (h2 : txN kind k v <+: r) : stp kind k r = some v := by
  cases h : stp kind k r with
  | none =>
    unfold stp at h
    rw [dif_pos ⟨v, h1, h2⟩] at h
    cases h
  | some u =>
    obtain ⟨a, b⟩ := stp_is h
    rw [hc u a b]
theorem stp_none {kind k : Int} {r : List UInt8} {v : Int} (hc : Cand kind k r v) (h : ¬ ((numT kind k v).2 = true ∧ txN kind k v <+: r)) : stp kind k r = none := by
  cases h2 : stp kind k r with
  | none => rfl
  | some u =>
    obtain ⟨a, b⟩ := stp_is h2
    have e := hc u a b
    subst e
    exact absurd ⟨a, b⟩ h
theorem txN_pos {kind k v : Int} (h : (numT kind k v).2 = true) : 1 ≤ (txN kind k v).length := by
  unfold txN
  unfold numT at h ⊢
  have hnum : ∀ T : Nat → List UInt8, (∀ m, 1 ≤ m → 1 ≤ (T m).length) → (outNum v T).2 = true → 1 ≤ (outNum v T).1.data.toList.length := by
    intro T hT ho
    unfold outNum at ho ⊢
    by_cases hb : inB v 1 1000000 = true
    · rw [if_pos hb]
      have h1 := inB_true hb
      have := hT v.toNat (by omega)
      simpa using this
    · rw [if_neg hb] at ho; cases ho
  have hg : ∀ m, 1 ≤ m → 1 ≤ (gammaT m).length := fun m hm => by
    have := blen_pos m hm
    unfold gammaT
    rw [List.length_append, digs_length]; omega
  split at h
  · rw [if_pos (by assumption)]
    unfold out_UnaryOf at h ⊢
    split at h
    · rw [if_pos (by assumption)]; simp [unaryT]
    · cases h
  · rw [if_neg (by assumption)]
    split at h
    · rw [if_pos (by assumption)]; exact hnum gammaT hg h
    · rw [if_neg (by assumption)]
      split at h
      · rw [if_pos (by assumption)]
        exact hnum deltaT (fun m hm => by
          have := hg (blen m) (blen_pos m hm)
          unfold deltaT
          rw [List.length_append]; omega) h
      · rw [if_neg (by assumption)]
        split at h
        · rw [if_pos (by assumption)]
          exact hnum fibT (fun m _ => by unfold fibT; simp) h
        · rw [if_neg (by assumption)]
          unfold out_RiceOf at h ⊢
          split at h
          · rw [if_pos (by assumption)]
            unfold riceO at h ⊢
            split at h
            · rw [if_pos (by assumption)]
              simp only [decide_eq_true_eq] at h
              rw [if_pos h]
              simp [riceT, unaryT]
              generalize (v.toNat - 1) / 2 ^ k.toNat = q
              omega
            · cases h
          · cases h
/-- What has been read behind n numbers: the place, the numbers. -/
noncomputable def ncN (kind k : Int) (l : List UInt8) : Nat → Nat × List Int
  | 0 => (0, [])
  | n + 1 => match stp kind k (l.drop (ncN kind k l n).1) with
    | some v => ((ncN kind k l n).1 + (txN kind k v).length, (ncN kind k l n).2 ++ [v])
    | none => ncN kind k l n
theorem ncN_some {kind k : Int} {l : List UInt8} {n : Nat} {v : Int} (h : stp kind k (l.drop (ncN kind k l n).1) = some v) : ncN kind k l (n + 1) = ((ncN kind k l n).1 + (txN kind k v).length, (ncN kind k l n).2 ++ [v]) := by
  rw [ncN, h]
theorem ncN_none {kind k : Int} {l : List UInt8} {n : Nat} (h : stp kind k (l.drop (ncN kind k l n).1) = none) : ncN kind k l (n + 1) = ncN kind k l n := by
  rw [ncN, h]
theorem ncN_le {kind k : Int} {l : List UInt8} : ∀ n, (ncN kind k l n).1 ≤ l.length
  | 0 => Nat.zero_le _
  | n + 1 => by
    have ih := ncN_le (kind := kind) (k := k) (l := l) n
    cases h : stp kind k (l.drop (ncN kind k l n).1) with
    | none => rw [ncN_none h]; exact ih
    | some v =>
      rw [ncN_some h]
      have := List.IsPrefix.length_le (stp_is h).2
      rw [List.length_drop] at this
      show _ + _ ≤ _
      omega
theorem ncN_stop {kind k : Int} {l : List UInt8} {n : Nat} (h : stp kind k (l.drop (ncN kind k l n).1) = none) : ∀ d, ncN kind k l (n + d) = ncN kind k l n
  | 0 => rfl
  | d + 1 => by
    have ih := ncN_stop h d
    rw [← Nat.add_assoc, ncN_none (by rw [ih]; exact h), ih]
theorem ncN_len {kind k : Int} {l : List UInt8} : ∀ n, (ncN kind k l n).2.length ≤ n
  | 0 => Nat.le_refl _
  | n + 1 => by
    have ih := ncN_len (kind := kind) (k := k) (l := l) n
    cases h : stp kind k (l.drop (ncN kind k l n).1) with
    | none => rw [ncN_none h]; omega
    | some v => rw [ncN_some h]; simp; omega
theorem stp_end (kind k : Int) (l : List UInt8) : stp kind k (l.drop l.length) = none := by
  cases h : stp kind k (l.drop l.length) with
  | none => rfl
  | some v =>
    obtain ⟨a, b⟩ := stp_is h
    have h1 := txN_pos a
    have h2 := List.IsPrefix.length_le b
    rw [List.length_drop] at h2
    omega
theorem ncN_ge {kind k : Int} {l : List UInt8} : ∀ n, (∀ j, j < n → ∃ v, stp kind k (l.drop (ncN kind k l j).1) = some v) → n ≤ (ncN kind k l n).1
  | 0, _ => Nat.zero_le _
  | n + 1, h => by
    have ih := ncN_ge n (fun j hj => h j (by omega))
    obtain ⟨v, hv⟩ := h n (by omega)
    rw [ncN_some hv]
    have := txN_pos (stp_is hv).1
    show n + 1 ≤ _ + _
    omega
/-- What comes of a text. -/
noncomputable def ncR (kind k : Int) (l : List UInt8) : List Int × Bool := if (ncN kind k l l.length).1 = l.length then ((ncN kind k l l.length).2, true) else ([], false)
theorem ncR_end {kind k : Int} {l : List UInt8} {n : Nat} (hs : ∀ j, j < n → ∃ v, stp kind k (l.drop (ncN kind k l j).1) = some v) (h : (ncN kind k l n).1 = l.length) : ncR kind k l = ((ncN kind k l n).2, true) := by
  have hg := ncN_ge n hs
  have h1 : stp kind k (l.drop (ncN kind k l n).1) = none := by rw [h]; exact stp_end kind k l
  have h2 := ncN_stop h1 (l.length - n)
  rw [show n + (l.length - n) = l.length by omega] at h2
  unfold ncR
  rw [h2, if_pos h]
theorem ncR_bad {kind k : Int} {l : List UInt8} {n : Nat} (hs : ∀ j, j < n → ∃ v, stp kind k (l.drop (ncN kind k l j).1) = some v) (hlt : (ncN kind k l n).1 < l.length) (h1 : stp kind k (l.drop (ncN kind k l n).1) = none) : ncR kind k l = ([], false) := by
  have hg := ncN_ge n hs
  have h2 := ncN_stop h1 (l.length - n)
  rw [show n + (l.length - n) = l.length by omega] at h2
  unfold ncR
  rw [h2, if_neg (by omega)]

end Go.Proofs.YtjobgobeiiakgaaDoor

/- Numbers read back from their bits: bounds on texts, plain. -/
namespace Go.Proofs.YtjobgobeiiakgaaDoor
set_option linter.unusedSimpArgs false
set_option linter.unusedVariables false
open Go.RowKit

theorem outNum_le {v : Int} {T : Nat → List UInt8} (hT : ∀ m, m < 2 ^ 20 → (T m).length ≤ 512) : (outNum v T).1.data.toList.length ≤ 512 := by
  unfold outNum
  split
  · rename_i hb
    have h1 := inB_true hb
    have := hT v.toNat (by omega)
    simpa using this
  · simp
theorem txN_le (kind k v : Int) : (txN kind k v).length ≤ 512 := by
  unfold txN numT
  split
  · unfold out_UnaryOf
    split
    · rename_i hb
      have h1 := inB_true hb
      simp [unaryT]; omega
    · simp
  · split
    · exact outNum_le fun m hm => by have := gammaT_le m 20 hm; omega
    · split
      · exact outNum_le fun m hm => by
          have h1 := blen_le m 20 hm
          have h2 := gammaT_le (blen m) 5 (by omega)
          unfold deltaT
          rw [List.length_append, digs_length]; omega
      · split
        · exact outNum_le fun m _ => by have := fibT_length m; omega
        · unfold out_RiceOf
          split
          · unfold riceO
            split
            · split
              · simp only; simpa using by assumption
              · simp
            · simp
          · simp
theorem numT_tx (kind k v : Int) : (numT kind k v).1 = ⟨(txN kind k v).toArray⟩ := by
  unfold txN; simp
theorem ncR_len (kind k : Int) (l : List UInt8) : (ncR kind k l).1.length ≤ l.length := by
  unfold ncR
  split
  · exact ncN_len _
  · exact Nat.zero_le _
noncomputable def out_NumbersOfBits (kind k : Int) (s : ByteArray) : List Int × Bool := if inB kind 0 4 && inB k 0 20 && bitsOk s.data.toList then ncR kind k s.data.toList else ([], false)

end Go.Proofs.YtjobgobeiiakgaaDoor
