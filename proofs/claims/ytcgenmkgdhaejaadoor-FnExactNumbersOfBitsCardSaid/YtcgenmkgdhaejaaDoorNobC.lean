/- Numbers read back from their bits: the only number with which a text can begin. -/
import Derived.Test.YtcgenmkgdhaejaaDoorNobP
namespace Go.Proofs.YtcgenmkgdhaejaaDoor
set_option linter.unusedSimpArgs false
set_option linter.unusedVariables false
open Go.RowKit

/-- The text of a number of a kind. -/
def numT (kind k n : Int) : ByteArray × Bool :=
  if kind = 0 then out_UnaryOf n else if kind = 1 then out_GammaOf n else if kind = 2 then out_DeltaOf n else if kind = 3 then out_FibonacciOf n else out_RiceOf n k
/-- v is the only number whose text can be at the beginning of r. -/
def Cand (kind k : Int) (r : List UInt8) (v : Int) : Prop := ∀ n, (numT kind k n).2 = true → (numT kind k n).1.data.toList <+: r → v = n
def numI (l : List UInt8) : Nat := if 20 < l.length then 0 else valA 0 l
theorem take_app (a b : List UInt8) : (a ++ b).take a.length = a := by simp
theorem drop_app (a b : List UInt8) : (a ++ b).drop a.length = b := by simp
theorem numI_of {l : List UInt8} (h : l.length ≤ 20) : numI l = valA 0 l := by unfold numI; rw [if_neg (by omega)]
theorem unary_r {n : Int} {k : Int} {r : List UInt8} (h : (numT 0 k n).2 = true) (hp : (numT 0 k n).1.data.toList <+: r) : ∃ m t, n = ((m + 1 : Nat) : Int) ∧ r = List.replicate m 49 ++ 48 :: t := by
  have e : numT 0 k n = out_UnaryOf n := rfl
  rw [e] at h hp
  unfold out_UnaryOf at h hp
  by_cases hb : inB n 1 512 = true
  · rw [if_pos hb] at hp
    obtain ⟨h1, h2⟩ := inB_true hb
    obtain ⟨t, ht⟩ := hp
    refine ⟨n.toNat - 1, t, by omega, ?_⟩
    rw [← ht]
    simp [unaryT]
  · rw [if_neg hb] at h; cases h
theorem cand0_i (k : Int) (r : List UInt8) : Cand 0 k r ((lead 49 r : Nat) + 1 : Int) := by
  intro n h hp
  obtain ⟨m, t, rfl, rfl⟩ := unary_r h hp
  rw [lead_rep 49 48 (by decide)]; omega
theorem cand0_s (k : Int) (r : List UInt8) : Cand 0 k r ((untl 48 r : Nat) + 1 : Int) := by
  intro n h hp
  obtain ⟨m, t, rfl, rfl⟩ := unary_r h hp
  rw [untl_rep 49 48 (by decide)]; omega
theorem num_r {T : Nat → List UInt8} {n : Int} {r : List UInt8} (h : (outNum n T).2 = true) (hp : (outNum n T).1.data.toList <+: r) : ∃ m t, n = ((m : Nat) : Int) ∧ 1 ≤ m ∧ m ≤ 1000000 ∧ r = T m ++ t := by
  unfold outNum at h hp
  by_cases hb : inB n 1 1000000 = true
  · rw [if_pos hb] at hp
    obtain ⟨h1, h2⟩ := inB_true hb
    obtain ⟨t, ht⟩ := hp
    exact ⟨n.toNat, t, by omega, by omega, by omega, by rw [← ht]⟩
  · rw [if_neg hb] at h; cases h
theorem gamma_r {m : Nat} (h : 1 ≤ m) (t : List UInt8) : gammaT m ++ t = List.replicate (blen m - 1) 48 ++ 49 :: (digs m (blen m - 1) ++ t) := by
  unfold gammaT
  rw [digs_blen h, List.append_assoc, List.cons_append]
theorem gamma_drop {m : Nat} (h : 1 ≤ m) (t : List UInt8) : (gammaT m ++ t).drop (blen m - 1) = digs m (blen m) ++ t := by
  rw [gamma_r h]
  have := drop_app (List.replicate (blen m - 1) 48) (49 :: (digs m (blen m - 1) ++ t))
  rw [List.length_replicate] at this
  rw [this, digs_blen h]; rfl
theorem gamma_take {m : Nat} (h : 1 ≤ m) (hm : m ≤ 1000000) (t : List UInt8) : numI ((digs m (blen m) ++ t).take (blen m - 1 + 1)) = m := by
  have hb := blen_le m 20 (by omega)
  have hp := blen_pos m h
  have := take_app (digs m (blen m)) t
  rw [digs_length] at this
  rw [show blen m - 1 + 1 = blen m by omega, this, numI_of (by rw [digs_length]; exact hb), val_blen]
theorem gamma_vp {m : Nat} (h : 1 ≤ m) (t : List UInt8) : vpA 0 (digs m (blen m) ++ t) (blen m - 1 + 1) = m := by
  have hp := blen_pos m h
  have := vpA_app t (digs m (blen m)) 0
  rw [digs_length] at this
  rw [show blen m - 1 + 1 = blen m by omega, this, val_blen]
theorem cand1_i (k : Int) (r : List UInt8) : Cand 1 k r ((numI ((r.drop (lead 48 r)).take (lead 48 r + 1)) : Nat) : Int) := by
  intro n h hp
  obtain ⟨m, t, rfl, h1, h2, rfl⟩ := num_r (T := gammaT) h hp
  have hz : lead 48 (gammaT m ++ t) = blen m - 1 := by rw [gamma_r h1, lead_rep 48 49 (by decide)]
  rw [hz, gamma_drop h1, gamma_take h1 h2]
theorem cand1_s (k : Int) (r : List UInt8) : Cand 1 k r ((vpA 0 (r.drop (min (untl 49 r) 25)) (min (untl 49 r) 25 + 1) : Nat) : Int) := by
  intro n h hp
  obtain ⟨m, t, rfl, h1, h2, rfl⟩ := num_r (T := gammaT) h hp
  have hb := blen_le m 20 (by omega)
  have hz : min (untl 49 (gammaT m ++ t)) 25 = blen m - 1 := by rw [gamma_r h1, untl_rep 48 49 (by decide)]; omega
  rw [hz, gamma_drop h1, gamma_vp h1]
theorem delta_drop {m : Nat} (h : 1 ≤ m) (t : List UInt8) : (deltaT m ++ t).drop (2 * (blen (blen m) - 1) + 1) = digs m (blen m - 1) ++ t := by
  have hp := blen_pos m h
  have hpp := blen_pos (blen m) hp
  unfold deltaT
  rw [List.append_assoc, show 2 * (blen (blen m) - 1) + 1 = (blen (blen m) - 1) + blen (blen m) by omega, ← List.drop_drop, gamma_drop hp]
  have := drop_app (digs (blen m) (blen (blen m))) (digs m (blen m - 1) ++ t)
  rw [digs_length] at this
  exact this
def gd2_i (r : List UInt8) : Nat :=
  if numI ((r.drop (lead 48 r)).take (lead 48 r + 1)) < 1 ∨ 20 < numI ((r.drop (lead 48 r)).take (lead 48 r + 1)) then 0
  else numI (49 :: (r.drop (min r.length (2 * lead 48 r + 1))).take (numI ((r.drop (lead 48 r)).take (lead 48 r + 1)) - 1))
def gd2_s (r : List UInt8) : Nat :=
  if min (vpA 0 (r.drop (min (untl 49 r) 5)) (min (untl 49 r) 5 + 1)) 25 < 1 then 0
  else 2 ^ (min (vpA 0 (r.drop (min (untl 49 r) 5)) (min (untl 49 r) 5 + 1)) 25 - 1) + vpA 0 (r.drop (2 * min (untl 49 r) 5 + 1)) (min (vpA 0 (r.drop (min (untl 49 r) 5)) (min (untl 49 r) 5 + 1)) 25 - 1)
theorem drop_min (r : List UInt8) (k : Nat) : r.drop (min r.length k) = r.drop k := by
  by_cases h : r.length ≤ k
  · rw [Nat.min_eq_left h, List.drop_length, List.drop_of_length_le h]
  · rw [Nat.min_eq_right (by omega)]
theorem cand2_i (k : Int) (r : List UInt8) : Cand 2 k r ((gd2_i r : Nat) : Int) := by
  intro n h hp
  obtain ⟨m, t, rfl, h1, h2, rfl⟩ := num_r (T := deltaT) h hp
  have hb := blen_le m 20 (by omega)
  have hp := blen_pos m h1
  have hg : deltaT m ++ t = gammaT (blen m) ++ (digs m (blen m - 1) ++ t) := by unfold deltaT; rw [List.append_assoc]
  have hz : lead 48 (deltaT m ++ t) = blen (blen m) - 1 := by rw [hg, gamma_r hp, lead_rep 48 49 (by decide)]
  have hl : numI (((deltaT m ++ t).drop (lead 48 (deltaT m ++ t))).take (lead 48 (deltaT m ++ t) + 1)) = blen m := by
    rw [hz, hg, gamma_drop hp, gamma_take hp (by omega)]
  unfold gd2_i
  rw [hl, if_neg (by omega), drop_min, hz, delta_drop h1]
  have ht := take_app (digs m (blen m - 1)) t
  rw [digs_length] at ht
  rw [ht, ← digs_blen h1, numI_of (by rw [digs_length]; exact hb), val_blen]
theorem cand2_s (k : Int) (r : List UInt8) : Cand 2 k r ((gd2_s r : Nat) : Int) := by
  intro n h hp
  obtain ⟨m, t, rfl, h1, h2, rfl⟩ := num_r (T := deltaT) h hp
  have hb := blen_le m 20 (by omega)
  have hbb := blen_le (blen m) 5 (by omega)
  have hp := blen_pos m h1
  have hg : deltaT m ++ t = gammaT (blen m) ++ (digs m (blen m - 1) ++ t) := by unfold deltaT; rw [List.append_assoc]
  have hz : min (untl 49 (deltaT m ++ t)) 5 = blen (blen m) - 1 := by rw [hg, gamma_r hp, untl_rep 48 49 (by decide)]; omega
  have hl : min (vpA 0 ((deltaT m ++ t).drop (min (untl 49 (deltaT m ++ t)) 5)) (min (untl 49 (deltaT m ++ t)) 5 + 1)) 25 = blen m := by
    rw [hz, hg, gamma_drop hp, gamma_vp hp]; omega
  unfold gd2_s
  rw [hl, if_neg (by omega), hz, delta_drop h1]
  have ht := vpA_app t (digs m (blen m - 1)) 0
  rw [digs_length] at ht
  rw [ht, ← val_short h1]
theorem rice_r {n k : Int} {r : List UInt8} (h : (numT 4 k n).2 = true) (hp : (numT 4 k n).1.data.toList <+: r) :
    ∃ (x q : Nat) (t : List UInt8), n = (x : Int) + 1 ∧ k = (q : Int) ∧ q ≤ 20 ∧ r = List.replicate (x / 2 ^ q) 49 ++ 48 :: (digs x q ++ t) := by
  have e : numT 4 k n = out_RiceOf n k := rfl
  rw [e] at h hp
  unfold out_RiceOf at h hp
  by_cases hb : (inB n 1 1000000 && inB k 0 20) = true
  · rw [if_pos hb] at h hp
    rw [Bool.and_eq_true] at hb
    obtain ⟨h1, h2⟩ := inB_true hb.1
    obtain ⟨h3, h4⟩ := inB_true hb.2
    unfold riceO at h hp
    by_cases hq : (n.toNat - 1) / 2 ^ k.toNat < 512
    · rw [if_pos hq] at h hp
      simp only [decide_eq_true_eq] at h
      rw [if_pos h] at hp
      obtain ⟨t, ht⟩ := hp
      refine ⟨n.toNat - 1, k.toNat, t, by omega, by omega, by omega, ?_⟩
      rw [← ht]
      simp [riceT, unaryT]
    · rw [if_neg hq] at h; cases h
  · rw [if_neg hb] at h; cases h
theorem drop_one_past (m : Nat) (t : List UInt8) : (List.replicate m (49 : UInt8) ++ 48 :: t).drop (m + 1) = t := by
  rw [← List.drop_drop]
  have := drop_app (List.replicate m 49) (48 :: t)
  rw [List.length_replicate] at this
  rw [this]; rfl
theorem div_mod_back (x q : Nat) : x / 2 ^ q * 2 ^ q + x % 2 ^ q = x := by rw [Nat.mul_comm]; exact Nat.div_add_mod x (2 ^ q)
theorem cand4_i (k : Nat) (r : List UInt8) : Cand 4 k r ((lead 49 r * 2 ^ k + numI ((r.drop (min r.length (lead 49 r + 1))).take k) + 1 : Nat) : Int) := by
  intro n h hp
  obtain ⟨x, q, t, rfl, hk, hq, rfl⟩ := rice_r h hp
  obtain rfl : k = q := by omega
  have ht := take_app (digs x k) t
  rw [digs_length] at ht
  rw [lead_rep 49 48 (by decide), drop_min, drop_one_past, ht, numI_of (by rw [digs_length]; exact hq), valA_digs, Nat.zero_mul, Nat.zero_add, div_mod_back]
  omega
theorem cand4_s (k : Nat) (r : List UInt8) : Cand 4 k r ((untl 48 r * 2 ^ k + vpA 0 (r.drop (untl 48 r + 1)) k + 1 : Nat) : Int) := by
  intro n h hp
  obtain ⟨x, q, t, rfl, hk, hq, rfl⟩ := rice_r h hp
  obtain rfl : k = q := by omega
  have ht := vpA_app t (digs x k) 0
  rw [digs_length] at ht
  rw [untl_rep 49 48 (by decide), drop_one_past, ht, valA_digs, Nat.zero_mul, Nat.zero_add, div_mod_back]
  omega

end Go.Proofs.YtcgenmkgdhaejaaDoor
