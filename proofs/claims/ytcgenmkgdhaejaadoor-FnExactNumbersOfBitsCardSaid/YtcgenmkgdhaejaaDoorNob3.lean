/- Numbers read back from their bits: the program's guess, delta and Rice. -/
import Derived.Test.YtcgenmkgdhaejaaDoorNob2
import Derived.Deep.QuietTactic
namespace Go.Proofs.YtcgenmkgdhaejaaDoor
set_option linter.unusedSimpArgs false
set_option linter.unusedVariables false
open Go.RowKit

set_option maxRecDepth 100000 in
set_option maxHeartbeats 2000000 in
theorem guess2_any (k : Int) (r : List UInt8) (w : World) (hl : r.length ≤ 512) (hb : ∀ c ∈ r, c = 48 ∨ c = 49) :
    Calls Tryd.prog 30 #[.int .i64 2, .int .i64 k, .string ⟨r.toArray⟩] w fun e w' => e = .returned (.int .i64 ((gd2_i r : Nat) : Int)) ∧ w = w' := by
  obtain ⟨T1, t1, u1, h1⟩ := trim_any r 49 (by decide)
  obtain ⟨T2, t2, u2, h2⟩ := trim_any r 48 (by decide)
  have HT1 := Lib.hid h1
  have HT2 := Lib.hid h2
  clear h1 h2
  have b1 := lead_le 49 r
  have b2 := lead_le 48 r
  obtain ⟨res, hres⟩ : ∃ res, res = gd2_i r := ⟨_, rfl⟩
  rw [← hres]
  have HG : Hid (res = if numI ((r.drop (lead 48 r)).take (lead 48 r + 1)) < 1 ∨ 20 < numI ((r.drop (lead 48 r)).take (lead 48 r + 1)) then 0
      else numI (49 :: (r.drop (min r.length (2 * lead 48 r + 1))).take (numI ((r.drop (lead 48 r)).take (lead 48 r + 1)) - 1))) := hres
  clear hres
  generalize lead 49 r = o at *
  generalize lead 48 r = z at *
  have hcut := run_cut_l r z b2
  have hdl : (r.drop z).length ≤ 512 := by rw [List.length_drop]; omega
  have hh := fun W => headOf_any (r.drop z) (z + 1) W (by omega) (by omega)
  have htl : ((r.drop z).take (z + 1)).length ≤ 512 := by rw [List.length_take]; omega
  have hn := fun W => number_any ((r.drop z).take (z + 1)) W (by omega) (bits_dt hb _ _)
  rw [Int.natCast_add, show ((1 : Nat) : Int) = 1 from rfl] at hh
  have HH := Lib.hid hh
  have HN := Lib.hid hn
  have hgl := numI_lt ((r.drop z).take (z + 1))
  clear hh hn
  generalize numI ((r.drop z).take (z + 1)) = g at *
  generalize (r.drop z).take (z + 1) = x at *
  generalize r.drop z = y at *
  by_cases g1 : g < 1
  · have HR : Hid (res = 0) := by show _ = _; rw [HG.out, if_pos (.inl g1)]
    have k1 : (g : Int) < 1 := by omega
    clear hb HG
    go_enter Tryd.func30, Tryd.ntmps30
    go_wp2_with (first
      | (go_at_call 45; with_reducible refine (HT1.out _).mono ?_; rintro e w1 ⟨rfl, rfl⟩)
      | (go_at_call 45; with_reducible refine (HT2.out _).mono ?_; rintro e w1 ⟨rfl, rfl⟩)
      | (go_at_call 47; refine (HH.out _).mono ?_; rintro e w1 ⟨rfl, rfl⟩)
      | (go_at_call 46; refine (HN.out _).mono ?_; rintro e w1 ⟨rfl, rfl⟩))
    go_ret
    exact ⟨ret_int (by rw [HR.out]; rfl), rfl⟩
  · by_cases g2 : 20 < g
    · have HR : Hid (res = 0) := by show _ = _; rw [HG.out, if_pos (.inr g2)]
      have k1 : ¬ (g : Int) < 1 := by omega
      have k2 : (20 : Int) < (g : Int) := by omega
      clear hb HG
      go_enter Tryd.func30, Tryd.ntmps30
      go_wp2_with (first
        | (go_at_call 45; with_reducible refine (HT1.out _).mono ?_; rintro e w1 ⟨rfl, rfl⟩)
        | (go_at_call 45; with_reducible refine (HT2.out _).mono ?_; rintro e w1 ⟨rfl, rfl⟩)
        | (go_at_call 47; refine (HH.out _).mono ?_; rintro e w1 ⟨rfl, rfl⟩)
        | (go_at_call 46; refine (HN.out _).mono ?_; rintro e w1 ⟨rfl, rfl⟩))
      go_ret
      exact ⟨ret_int (by rw [HR.out]; rfl), rfl⟩
    · obtain ⟨q, rfl⟩ : ∃ q, g = q + 1 := ⟨g - 1, by omega⟩
      have HR : Hid (res = numI (49 :: (r.drop (min r.length (2 * z + 1))).take q)) := by show _ = _; rw [HG.out, if_neg (by omega)]; rfl
      have k1 : ¬ ((q + 1 : Nat) : Int) < 1 := by omega
      have k2 : ¬ (20 : Int) < ((q + 1 : Nat) : Int) := by omega
      have k3 : ((q + 1 : Nat) : Int) - 1 = (q : Int) := by omega
      have k4 : (q : Int) + 1 - 1 = (q : Int) := by omega
      obtain ⟨m, hm⟩ : ∃ m, m = min r.length (2 * z + 1) := ⟨_, rfl⟩
      rw [← hm] at HR
      have hml : m ≤ r.length := by omega
      have hmi : min (r.length : Int) (2 * (z : Int) + 1) = (m : Int) := by omega
      have hcut2 := run_cut_l r m hml
      have hdl2 : (r.drop m).length ≤ 512 := by rw [List.length_drop]; omega
      have hh2 := fun W => headOf_any (r.drop m) q W (by omega) (by omega)
      have htl2 : ((r.drop m).take q).length ≤ 512 := by rw [List.length_take]; omega
      have hn2 := fun W => number_any (49 :: (r.drop m).take q) W (by rw [List.length_cons]; omega) (fun c hc => by
        rcases List.mem_cons.1 hc with rfl | h
        · exact .inr rfl
        · exact bits_dt hb _ _ c h)
      have hcat : ∀ W, (Op.stringOp .add ⟨#[49]⟩ ⟨((r.drop m).take q).toArray⟩).run Tryd.prog W = .ok (.string ⟨(49 :: (r.drop m).take q).toArray⟩) W := fun W => by
        have := run_string_add_lists (P := Tryd.prog) W [49] ((r.drop m).take q) (by simp) (by omega)
        simpa using this
      have HH2 := Lib.hid hh2
      have HN2 := Lib.hid hn2
      clear hb HG hh2 hn2 hm
      generalize (r.drop m).take q = x2 at *
      generalize r.drop m = y2 at *
      generalize numI (49 :: x2) = v2 at *
      generalize 49 :: x2 = x3 at *
      go_enter Tryd.func30, Tryd.ntmps30
      go_wp2_with (first
        | (go_at_call 45; with_reducible refine (HT1.out _).mono ?_; rintro e w1 ⟨rfl, rfl⟩)
        | (go_at_call 45; with_reducible refine (HT2.out _).mono ?_; rintro e w1 ⟨rfl, rfl⟩)
        | (go_at_call 47; with_reducible refine (HH.out _).mono ?_; rintro e w1 ⟨rfl, rfl⟩)
        | (go_at_call 46; with_reducible refine (HN.out _).mono ?_; rintro e w1 ⟨rfl, rfl⟩)
        | (go_at_call 47; refine (HH2.out _).mono ?_; rintro e w1 ⟨rfl, rfl⟩)
        | (go_at_call 46; refine (HN2.out _).mono ?_; rintro e w1 ⟨rfl, rfl⟩))
      go_ret
      exact ⟨ret_int (by rw [HR.out]), rfl⟩

set_option maxRecDepth 100000 in
set_option maxHeartbeats 2000000 in
theorem guess4_any (k : Nat) (hk : k ≤ 20) (r : List UInt8) (w : World) (hl : r.length ≤ 512) (hb : ∀ c ∈ r, c = 48 ∨ c = 49) :
    Calls Tryd.prog 30 #[.int .i64 4, .int .i64 (k : Int), .string ⟨r.toArray⟩] w fun e w' => e = .returned (.int .i64 ((lead 49 r * 2 ^ k + numI ((r.drop (min r.length (lead 49 r + 1))).take k) + 1 : Nat) : Int)) ∧ Qu w w' := by
  obtain ⟨T1, t1, u1, h1⟩ := trim_any r 49 (by decide)
  obtain ⟨T2, t2, u2, h2⟩ := trim_any r 48 (by decide)
  have HT1 := Lib.hid h1
  have HT2 := Lib.hid h2
  clear h1 h2
  have b1 := lead_le 49 r
  have b2 := lead_le 48 r
  generalize lead 49 r = o at *
  generalize lead 48 r = z at *
  obtain ⟨m, hm⟩ : ∃ m, m = min r.length (o + 1) := ⟨_, rfl⟩
  rw [← hm]
  have hml : m ≤ r.length := by omega
  have hmi : min (r.length : Int) ((o : Int) + 1) = (m : Int) := by omega
  have hcut := run_cut_l r m hml
  have hdl : (r.drop m).length ≤ 512 := by rw [List.length_drop]; omega
  have hh := fun W => (headOf_any (r.drop m) k W (by omega) (by omega)).mono fun _ _ h => (⟨h.1, h.2.symm⟩ : _ ∧ _ = _)
  have htl : ((r.drop m).take k).length ≤ 512 := by rw [List.length_take]; omega
  have hn := fun W => (number_any ((r.drop m).take k) W (by omega) (bits_dt hb _ _)).mono fun _ _ h => (⟨h.1, h.2.symm⟩ : _ ∧ _ = _)
  have HH := Lib.hid hh
  have HN := Lib.hid hn
  have hgl := numI_lt ((r.drop m).take k)
  clear hb hh hn hm
  generalize numI ((r.drop m).take k) = g at *
  generalize (r.drop m).take k = x at *
  generalize r.drop m = y at *
  have hp1 : 2 ^ k ≤ 2 ^ 20 := Nat.pow_le_pow_right (by omega) hk
  have hp2 : o * 2 ^ k ≤ 512 * 2 ^ 20 := Nat.mul_le_mul (by omega) hp1
  have e1 : (o : Int) * 2 ^ k = ((o * 2 ^ k : Nat) : Int) := by simp
  obtain ⟨s, hs⟩ : ∃ s, s = o * 2 ^ k := ⟨_, rfl⟩
  rw [← hs] at e1 hp2 ⊢
  clear hs hp1
  have e2 : IntKind.i64.wrap (s : Int) = (s : Int) := IntWalk.i64_in _ (by omega)
  have e3 : IntKind.i64.wrap ((s : Int) + (g : Int)) = (s : Int) + (g : Int) := IntWalk.i64_in _ (by omega)
  have e4 : IntKind.i64.wrap ((s : Int) + (g : Int) + 1) = (s : Int) + (g : Int) + 1 := IntWalk.i64_in _ (by omega)
  have e5 : ((s + g + 1 : Nat) : Int) = (s : Int) + (g : Int) + 1 := by omega
  rw [e5]
  clear e5
  go_enter Tryd.func30, Tryd.ntmps30
  go_wp2_with (first
    | (go_at_call 45; with_reducible refine (HT1.out _).mono ?_; rintro e w1 ⟨rfl, rfl⟩)
    | (go_at_call 45; with_reducible refine (HT2.out _).mono ?_; rintro e w1 ⟨rfl, rfl⟩))
  go_quiet (first
    | (go_at_call 47; exact Calls.quiet_of_same (HH.out _))
    | (go_at_call 46; exact Calls.quiet_of_same (HN.out _)))
  go_wp2
  go_ret
  exact ⟨rfl, _, rfl⟩

end Go.Proofs.YtcgenmkgdhaejaaDoor
