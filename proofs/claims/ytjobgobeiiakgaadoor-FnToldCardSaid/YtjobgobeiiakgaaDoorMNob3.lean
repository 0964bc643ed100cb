/- Numbers read back from their bits: the program's helpers. -/
import Derived.Test.YtjobgobeiiakgaaDoorMNobE
import Derived.Test.YtjobgobeiiakgaaDoorMRun
import Derived.IntWalk
import Derived.Deep.QuietTactic
namespace Go.Proofs.YtjobgobeiiakgaaDoor
set_option linter.unusedSimpArgs false
set_option linter.unusedVariables false
open Go.RowKit
theorem trimL_len (c : UInt8) : ∀ l : List UInt8, l.length - (Lib.trimLeftB l c).length = lead c l ∧ (Lib.trimLeftB l c).length ≤ l.length
  | [] => ⟨rfl, Nat.le_refl _⟩
  | x :: r => by
    have ih := trimL_len c r
    by_cases h : x = c
    · have e : Lib.trimLeftB (x :: r) c = Lib.trimLeftB r c := by simp [Lib.trimLeftB, h]
      have e2 : lead c (x :: r) = lead c r + 1 := by show (if x = c then _ else _) = _; rw [if_pos h]
      rw [e, e2, List.length_cons]; omega
    · have e : Lib.trimLeftB (x :: r) c = x :: r := by simp [Lib.trimLeftB, h]
      have e2 : lead c (x :: r) = 0 := by show (if x = c then _ else _) = _; rw [if_neg h]
      rw [e, e2]; omega
theorem valA_snoc (c : UInt8) : ∀ (l : List UInt8) (a : Nat), valA a (l ++ [c]) = 2 * valA a l + bit c
  | [], _ => rfl
  | x :: r, a => valA_snoc c r _
theorem valA_lt (l : List UInt8) : valA 0 l < 2 ^ l.length := by
  have key : ∀ (l : List UInt8) (a : Nat), valA a l < (a + 1) * 2 ^ l.length := by
    intro l
    induction l with
    | nil => intro a; show a < (a + 1) * 1; omega
    | cons c r ih =>
      intro a
      show valA (2 * a + bit c) r < _
      have h1 := ih (2 * a + bit c)
      have h2 : bit c ≤ 1 := by unfold bit; split <;> omega
      have h3 : (2 * a + bit c + 1) * 2 ^ r.length ≤ (2 * (a + 1)) * 2 ^ r.length := Nat.mul_le_mul_right _ (by omega)
      have h4 : (a + 1) * 2 ^ (c :: r).length = (2 * (a + 1)) * 2 ^ r.length := by rw [List.length_cons, Nat.pow_succ, Nat.mul_comm (2 ^ r.length) 2, ← Nat.mul_assoc, Nat.mul_comm (a + 1) 2]
      omega
  have := key l 0
  omega
theorem numI_lt (l : List UInt8) : numI l < 1048576 := by
  unfold numI
  split
  · omega
  · have h1 := valA_lt l
    have h2 : 2 ^ l.length ≤ 2 ^ 20 := Nat.pow_le_pow_right (by omega) (by omega)
    omega

theorem headOf_any (l : List UInt8) (k : Nat) (w : World) (hk : k ≤ 1048576) (hl : l.length ≤ 1048576) :
    Calls Tryd.prog 66 #[.string ⟨l.toArray⟩, .int .i64 (k : Int)] w fun e w' => e = .returned (.string ⟨(l.take k).toArray⟩) ∧ w = w' := by
  obtain ⟨m, hm⟩ : ∃ m : Nat, m = min k l.length := ⟨_, rfl⟩
  have hmi : min (k : Int) (l.length : Int) = (m : Int) := by omega
  have hml : m ≤ l.length := by omega
  have hcut : ∀ W : World, (Instr.slice 9 (.string ⟨l.toArray⟩) none (some (.int .i64 (m : Int))) none).run Tryd.prog W = .ok (.string ⟨(l.take k).toArray⟩) W := by
    intro W
    rw [run_slice_string_h (h0 := by omega) (h2 := by show (m : Int) ≤ ((l.toArray.size : Nat) : Int); simp; omega)]
    · rw [ByteArray.extract_mk, show ((m : Int)).toNat = m by omega]
      rw [hm]
      simp [List.take_eq_take_min]
    · exact Tryd.underlying9
  generalize l.take k = z at *
  by_cases h : k ≤ l.length
  · have hmk : m = k := by omega
    clear hm
    subst hmk
    have k1 : (m : Int) ≤ (l.length : Int) := by omega
    go_enter Tryd.func66, Tryd.ntmps66
    go_wp2
    go_ret
    exact ⟨rfl, rfl⟩
  · have hmk : m = l.length := by omega
    clear hm hml
    subst hmk
    have k1 : ¬ (k : Int) ≤ (l.length : Int) := by omega
    go_enter Tryd.func66, Tryd.ntmps66
    go_wp2
    go_ret
    exact ⟨rfl, rfl⟩

set_option maxHeartbeats 1000000 in
theorem number_any (l : List UInt8) (w : World) (hl : l.length ≤ 1048576) (hb : ∀ c ∈ l, c = 48 ∨ c = 49) :
    Calls Tryd.prog 65 #[.string ⟨l.toArray⟩] w fun e w' => e = .returned (.int .i64 (numI l : Nat)) ∧ w = w' := by
  by_cases h : l.length ≤ 20
  · have HR : Hid (numI l = valA 0 l) := by show _ = _; exact numI_of h
    have k1 : ¬ (20 : Int) < (l.length : Int) := by omega
    have HB := Lib.hid hb
    have HS : Hid (∀ k, k < l.length → valA 0 (l.take (k + 1)) = 2 * valA 0 (l.take k) + bit (l[k]?.getD 0) ∧ valA 0 (l.take k) < 1048576) := by
      show ∀ k, _
      intro k hk
      have h1 := valA_lt (l.take k)
      have h2 : 2 ^ (l.take k).length ≤ 2 ^ 20 := Nat.pow_le_pow_right (by omega) (by rw [List.length_take]; omega)
      refine ⟨?_, by omega⟩
      rw [List.take_add_one, List.getElem?_eq_getElem hk, Option.toList_some, valA_snoc, Option.getD_some]
    clear hb
    go_enter Tryd.func65, Tryd.ntmps65
    go_wp2
    go_loop [3, 10] (fun v q => ∃ (k m : Nat), k ≤ l.length ∧ q = .int .i64 (k : Int) ∧ v = .int .i64 (m : Int) ∧ Hid (m = valA 0 (l.take k))) (fun _ q => l.length - (intOf q).toNat)
    case atStart => exact ⟨0, 0, Nat.zero_le _, rfl, rfl, Lib.hid rfl⟩
    case round =>
      obtain ⟨k, m, hk, rfl, rfl, hm⟩ := hrel
      by_cases hlt : k < l.length
      · obtain ⟨hs1, hs2⟩ := HS.out k hlt
        have hkb : k < (ByteArray.mk l.toArray).size := by show k < l.toArray.size; simpa using hlt
        obtain ⟨c, hc⟩ : ∃ c, (ByteArray.mk l.toArray)[k] = c := ⟨_, rfl⟩
        have hcl : l[k]? = some c := by rw [List.getElem?_eq_getElem hlt, ← hc]; rfl
        have hcb := HB.out c (List.mem_of_getElem? hcl)
        rw [hcl, Option.getD_some, ← hm.out] at hs1
        rw [← hm.out] at hs2
        have HS1 := Lib.hid hs1
        clear hs1 hcl
        rcases hcb with rfl | rfl
        · have HS2 : Hid (2 * m + 0 = valA 0 (l.take (k + 1))) := by show _ = _; rw [HS1.out]; rfl
          clear HS1
          go_wp2
          go_round
          case rel => exact ⟨k + 1, 2 * m + 0, by omega, by go_num, by go_num, HS2⟩
          case measure => simp [intOf]; omega
        · have HS2 : Hid (2 * m + 1 = valA 0 (l.take (k + 1))) := by show _ = _; rw [HS1.out]; rfl
          clear HS1
          go_wp2
          go_round
          case rel => exact ⟨k + 1, 2 * m + 1, by omega, by go_num, by go_num, HS2⟩
          case measure => simp [intOf]; omega
      · obtain rfl : k = l.length := by omega
        have h2 := hm.out
        rw [List.take_length, ← HR.out] at h2
        go_wp2
        go_ret
        exact ⟨ret_int rfl, rfl⟩
  · have HR : Hid (numI l = 0) := by show _ = _; unfold numI; rw [if_pos (by omega)]
    have k1 : (20 : Int) < (l.length : Int) := by omega
    clear hb
    go_enter Tryd.func65, Tryd.ntmps65
    go_wp2
    go_ret
    exact ⟨ret_int (by rw [HR.out]; rfl), rfl⟩

end Go.Proofs.YtjobgobeiiakgaaDoor

/- Numbers read back from their bits: the program's guess. -/
namespace Go.Proofs.YtjobgobeiiakgaaDoor
set_option linter.unusedSimpArgs false
set_option linter.unusedVariables false
open Go.RowKit

theorem trim_any (r : List UInt8) (c : UInt8) (hc : c.toNat < 128) :
    ∃ T : List UInt8, (r.length : Int) - (T.length : Int) = (lead c r : Nat) ∧ T.length ≤ r.length ∧ ∀ W : World, Calls Tryd.prog 64 #[.string ⟨r.toArray⟩, .string ⟨#[c]⟩] W fun e w' => e = .returned (.string ⟨T.toArray⟩) ∧ w' = W := by
  obtain ⟨h1, h2⟩ := trimL_len c r
  refine ⟨Lib.trimLeftB r c, by omega, h2, fun W => ?_⟩
  have h := Tryd.strings_TrimLeft_one ⟨r.toArray⟩ c hc W
  simpa using h
theorem bits_dt {r : List UInt8} (hb : ∀ c ∈ r, c = 48 ∨ c = 49) (a b : Nat) : ∀ c ∈ (r.drop a).take b, c = 48 ∨ c = 49 := fun c hc => hb c (List.mem_of_mem_drop (List.mem_of_mem_take hc))

set_option maxRecDepth 100000 in
set_option maxHeartbeats 1000000 in
theorem guess0_any (k : Int) (r : List UInt8) (w : World) (hl : r.length ≤ 512) :
    Calls Tryd.prog 39 #[.int .i64 0, .int .i64 k, .string ⟨r.toArray⟩] w fun e w' => e = .returned (.int .i64 ((lead 49 r : Nat) + 1 : Int)) ∧ w = w' := by
  obtain ⟨T1, t1, u1, h1⟩ := trim_any r 49 (by decide)
  obtain ⟨T2, t2, u2, h2⟩ := trim_any r 48 (by decide)
  have HT1 := Lib.hid h1
  have HT2 := Lib.hid h2
  clear h1 h2
  have b1 := lead_le 49 r
  have b2 := lead_le 48 r
  generalize lead 49 r = o at *
  generalize lead 48 r = z at *
  go_enter Tryd.func39, Tryd.ntmps39
  go_wp2_with (first
    | (go_at_call 64; with_reducible refine (HT1.out _).mono ?_; rintro e w1 ⟨rfl, rfl⟩)
    | (go_at_call 64; with_reducible refine (HT2.out _).mono ?_; rintro e w1 ⟨rfl, rfl⟩))
  go_ret
  exact ⟨rfl, rfl⟩

set_option maxRecDepth 100000 in
set_option maxHeartbeats 1000000 in
theorem guess1_any (k : Int) (r : List UInt8) (w : World) (hl : r.length ≤ 512) (hb : ∀ c ∈ r, c = 48 ∨ c = 49) :
    Calls Tryd.prog 39 #[.int .i64 1, .int .i64 k, .string ⟨r.toArray⟩] w fun e w' => e = .returned (.int .i64 ((numI ((r.drop (lead 48 r)).take (lead 48 r + 1)) : Nat) : Int)) ∧ w = w' := by
  obtain ⟨T1, t1, u1, h1⟩ := trim_any r 49 (by decide)
  obtain ⟨T2, t2, u2, h2⟩ := trim_any r 48 (by decide)
  have HT1 := Lib.hid h1
  have HT2 := Lib.hid h2
  clear h1 h2
  have b1 := lead_le 49 r
  have b2 := lead_le 48 r
  generalize lead 49 r = o at *
  generalize lead 48 r = z at *
  have hcut := run_cut_l r z b2
  have hdl : (r.drop z).length ≤ 512 := by rw [List.length_drop]; omega
  have hh := fun W => headOf_any (r.drop z) (z + 1) W (by omega) (by omega)
  have htl : ((r.drop z).take (z + 1)).length ≤ 512 := by rw [List.length_take]; omega
  have hn := fun W => number_any ((r.drop z).take (z + 1)) W (by omega) (bits_dt hb _ _)
  rw [Int.natCast_add, show ((1 : Nat) : Int) = 1 from rfl] at hh
  have HH := Lib.hid hh
  have HN := Lib.hid hn
  clear hb hh hn
  generalize numI ((r.drop z).take (z + 1)) = g at *
  generalize (r.drop z).take (z + 1) = x at *
  generalize r.drop z = y at *
  go_enter Tryd.func39, Tryd.ntmps39
  go_wp2_with (first
    | (go_at_call 64; with_reducible refine (HT1.out _).mono ?_; rintro e w1 ⟨rfl, rfl⟩)
    | (go_at_call 64; with_reducible refine (HT2.out _).mono ?_; rintro e w1 ⟨rfl, rfl⟩)
    | (go_at_call 66; refine (HH.out _).mono ?_; rintro e w1 ⟨rfl, rfl⟩)
    | (go_at_call 65; refine (HN.out _).mono ?_; rintro e w1 ⟨rfl, rfl⟩))
  go_ret
  exact ⟨rfl, rfl⟩

end Go.Proofs.YtjobgobeiiakgaaDoor

/- Numbers read back from their bits: the program's guess, delta and Rice. -/
namespace Go.Proofs.YtjobgobeiiakgaaDoor
set_option linter.unusedSimpArgs false
set_option linter.unusedVariables false
open Go.RowKit

set_option maxRecDepth 100000 in
set_option maxHeartbeats 2000000 in
theorem guess2_any (k : Int) (r : List UInt8) (w : World) (hl : r.length ≤ 512) (hb : ∀ c ∈ r, c = 48 ∨ c = 49) :
    Calls Tryd.prog 39 #[.int .i64 2, .int .i64 k, .string ⟨r.toArray⟩] w fun e w' => e = .returned (.int .i64 ((gd2_i r : Nat) : Int)) ∧ w = w' := by
  obtain ⟨T1, t1, u1, h1⟩ := trim_any r 49 (by decide)
  obtain ⟨T2, t2, u2, h2⟩ := trim_any r 48 (by decide)
  have HT1 := Lib.hid h1
  have HT2 := Lib.hid h2
  clear h1 h2
  have b1 := lead_le 49 r
  have b2 := lead_le 48 r
  obtain ⟨res, hres⟩ : ∃ res, res = gd2_i r := ⟨_, rfl⟩
  rw [← hres]
  have HG : Hid (res = if numI ((r.drop (lead 48 r)).take (lead 48 r + 1)) < 1 ∨ 20 < numI ((r.drop (lead 48 r)).take (lead 48 r + 1)) then 0
      else numI (49 :: (r.drop (min r.length (2 * lead 48 r + 1))).take (numI ((r.drop (lead 48 r)).take (lead 48 r + 1)) - 1))) := hres
  clear hres
  generalize lead 49 r = o at *
  generalize lead 48 r = z at *
  have hcut := run_cut_l r z b2
  have hdl : (r.drop z).length ≤ 512 := by rw [List.length_drop]; omega
  have hh := fun W => headOf_any (r.drop z) (z + 1) W (by omega) (by omega)
  have htl : ((r.drop z).take (z + 1)).length ≤ 512 := by rw [List.length_take]; omega
  have hn := fun W => number_any ((r.drop z).take (z + 1)) W (by omega) (bits_dt hb _ _)
  rw [Int.natCast_add, show ((1 : Nat) : Int) = 1 from rfl] at hh
  have HH := Lib.hid hh
  have HN := Lib.hid hn
  have hgl := numI_lt ((r.drop z).take (z + 1))
  clear hh hn
  generalize numI ((r.drop z).take (z + 1)) = g at *
  generalize (r.drop z).take (z + 1) = x at *
  generalize r.drop z = y at *
  by_cases g1 : g < 1
  · have HR : Hid (res = 0) := by show _ = _; rw [HG.out, if_pos (.inl g1)]
    have k1 : (g : Int) < 1 := by omega
    clear hb HG
    go_enter Tryd.func39, Tryd.ntmps39
    go_wp2_with (first
      | (go_at_call 64; with_reducible refine (HT1.out _).mono ?_; rintro e w1 ⟨rfl, rfl⟩)
      | (go_at_call 64; with_reducible refine (HT2.out _).mono ?_; rintro e w1 ⟨rfl, rfl⟩)
      | (go_at_call 66; refine (HH.out _).mono ?_; rintro e w1 ⟨rfl, rfl⟩)
      | (go_at_call 65; refine (HN.out _).mono ?_; rintro e w1 ⟨rfl, rfl⟩))
    go_ret
    exact ⟨ret_int (by rw [HR.out]; rfl), rfl⟩
  · by_cases g2 : 20 < g
    · have HR : Hid (res = 0) := by show _ = _; rw [HG.out, if_pos (.inr g2)]
      have k1 : ¬ (g : Int) < 1 := by omega
      have k2 : (20 : Int) < (g : Int) := by omega
      clear hb HG
      go_enter Tryd.func39, Tryd.ntmps39
      go_wp2_with (first
        | (go_at_call 64; with_reducible refine (HT1.out _).mono ?_; rintro e w1 ⟨rfl, rfl⟩)
        | (go_at_call 64; with_reducible refine (HT2.out _).mono ?_; rintro e w1 ⟨rfl, rfl⟩)
        | (go_at_call 66; refine (HH.out _).mono ?_; rintro e w1 ⟨rfl, rfl⟩)
        | (go_at_call 65; refine (HN.out _).mono ?_; rintro e w1 ⟨rfl, rfl⟩))
      go_ret
      exact ⟨ret_int (by rw [HR.out]; rfl), rfl⟩
    · obtain ⟨q, rfl⟩ : ∃ q, g = q + 1 := ⟨g - 1, by omega⟩
      have HR : Hid (res = numI (49 :: (r.drop (min r.length (2 * z + 1))).take q)) := by show _ = _; rw [HG.out, if_neg (by omega)]; rfl
      have k1 : ¬ ((q + 1 : Nat) : Int) < 1 := by omega
      have k2 : ¬ (20 : Int) < ((q + 1 : Nat) : Int) := by omega
      have k3 : ((q + 1 : Nat) : Int) - 1 = (q : Int) := by omega
      have k4 : (q : Int) + 1 - 1 = (q : Int) := by omega
      obtain ⟨m, hm⟩ : ∃ m, m = min r.length (2 * z + 1) := ⟨_, rfl⟩
      rw [← hm] at HR
      have hml : m ≤ r.length := by omega
      have hmi : min (r.length : Int) (2 * (z : Int) + 1) = (m : Int) := by omega
      have hcut2 := run_cut_l r m hml
      have hdl2 : (r.drop m).length ≤ 512 := by rw [List.length_drop]; omega
      have hh2 := fun W => headOf_any (r.drop m) q W (by omega) (by omega)
      have htl2 : ((r.drop m).take q).length ≤ 512 := by rw [List.length_take]; omega
      have hn2 := fun W => number_any (49 :: (r.drop m).take q) W (by rw [List.length_cons]; omega) (fun c hc => by
        rcases List.mem_cons.1 hc with rfl | h
        · exact .inr rfl
        · exact bits_dt hb _ _ c h)
      have hcat : ∀ W, (Op.stringOp .add ⟨#[49]⟩ ⟨((r.drop m).take q).toArray⟩).run Tryd.prog W = .ok (.string ⟨(49 :: (r.drop m).take q).toArray⟩) W := fun W => by
        have := run_string_add_lists (P := Tryd.prog) W [49] ((r.drop m).take q) (by simp) (by omega)
        simpa using this
      have HH2 := Lib.hid hh2
      have HN2 := Lib.hid hn2
      clear hb HG hh2 hn2 hm
      generalize (r.drop m).take q = x2 at *
      generalize r.drop m = y2 at *
      generalize numI (49 :: x2) = v2 at *
      generalize 49 :: x2 = x3 at *
      go_enter Tryd.func39, Tryd.ntmps39
      go_wp2_with (first
        | (go_at_call 64; with_reducible refine (HT1.out _).mono ?_; rintro e w1 ⟨rfl, rfl⟩)
        | (go_at_call 64; with_reducible refine (HT2.out _).mono ?_; rintro e w1 ⟨rfl, rfl⟩)
        | (go_at_call 66; with_reducible refine (HH.out _).mono ?_; rintro e w1 ⟨rfl, rfl⟩)
        | (go_at_call 65; with_reducible refine (HN.out _).mono ?_; rintro e w1 ⟨rfl, rfl⟩)
        | (go_at_call 66; refine (HH2.out _).mono ?_; rintro e w1 ⟨rfl, rfl⟩)
        | (go_at_call 65; refine (HN2.out _).mono ?_; rintro e w1 ⟨rfl, rfl⟩))
      go_ret
      exact ⟨ret_int (by rw [HR.out]), rfl⟩

set_option maxRecDepth 100000 in
set_option maxHeartbeats 2000000 in
theorem guess4_any (k : Nat) (hk : k ≤ 20) (r : List UInt8) (w : World) (hl : r.length ≤ 512) (hb : ∀ c ∈ r, c = 48 ∨ c = 49) :
    Calls Tryd.prog 39 #[.int .i64 4, .int .i64 (k : Int), .string ⟨r.toArray⟩] w fun e w' => e = .returned (.int .i64 ((lead 49 r * 2 ^ k + numI ((r.drop (min r.length (lead 49 r + 1))).take k) + 1 : Nat) : Int)) ∧ Qu w w' := by
  obtain ⟨T1, t1, u1, h1⟩ := trim_any r 49 (by decide)
  obtain ⟨T2, t2, u2, h2⟩ := trim_any r 48 (by decide)
  have HT1 := Lib.hid h1
  have HT2 := Lib.hid h2
  clear h1 h2
  have b1 := lead_le 49 r
  have b2 := lead_le 48 r
  generalize lead 49 r = o at *
  generalize lead 48 r = z at *
  obtain ⟨m, hm⟩ : ∃ m, m = min r.length (o + 1) := ⟨_, rfl⟩
  rw [← hm]
  have hml : m ≤ r.length := by omega
  have hmi : min (r.length : Int) ((o : Int) + 1) = (m : Int) := by omega
  have hcut := run_cut_l r m hml
  have hdl : (r.drop m).length ≤ 512 := by rw [List.length_drop]; omega
  have hh := fun W => (headOf_any (r.drop m) k W (by omega) (by omega)).mono fun _ _ h => (⟨h.1, h.2.symm⟩ : _ ∧ _ = _)
  have htl : ((r.drop m).take k).length ≤ 512 := by rw [List.length_take]; omega
  have hn := fun W => (number_any ((r.drop m).take k) W (by omega) (bits_dt hb _ _)).mono fun _ _ h => (⟨h.1, h.2.symm⟩ : _ ∧ _ = _)
  have HH := Lib.hid hh
  have HN := Lib.hid hn
  have hgl := numI_lt ((r.drop m).take k)
  clear hb hh hn hm
  generalize numI ((r.drop m).take k) = g at *
  generalize (r.drop m).take k = x at *
  generalize r.drop m = y at *
  have hp1 : 2 ^ k ≤ 2 ^ 20 := Nat.pow_le_pow_right (by omega) hk
  have hp2 : o * 2 ^ k ≤ 512 * 2 ^ 20 := Nat.mul_le_mul (by omega) hp1
  have e1 : (o : Int) * 2 ^ k = ((o * 2 ^ k : Nat) : Int) := by simp
  obtain ⟨s, hs⟩ : ∃ s, s = o * 2 ^ k := ⟨_, rfl⟩
  rw [← hs] at e1 hp2 ⊢
  clear hs hp1
  have e2 : IntKind.i64.wrap (s : Int) = (s : Int) := IntWalk.i64_in _ (by omega)
  have e3 : IntKind.i64.wrap ((s : Int) + (g : Int)) = (s : Int) + (g : Int) := IntWalk.i64_in _ (by omega)
  have e4 : IntKind.i64.wrap ((s : Int) + (g : Int) + 1) = (s : Int) + (g : Int) + 1 := IntWalk.i64_in _ (by omega)
  have e5 : ((s + g + 1 : Nat) : Int) = (s : Int) + (g : Int) + 1 := by omega
  rw [e5]
  clear e5
  go_enter Tryd.func39, Tryd.ntmps39
  go_wp2_with (first
    | (go_at_call 64; with_reducible refine (HT1.out _).mono ?_; rintro e w1 ⟨rfl, rfl⟩)
    | (go_at_call 64; with_reducible refine (HT2.out _).mono ?_; rintro e w1 ⟨rfl, rfl⟩))
  go_quiet (first
    | (go_at_call 66; exact Calls.quiet_of_same (HH.out _))
    | (go_at_call 65; exact Calls.quiet_of_same (HN.out _)))
  go_wp2
  go_ret
  exact ⟨rfl, _, rfl⟩

end Go.Proofs.YtjobgobeiiakgaaDoor
