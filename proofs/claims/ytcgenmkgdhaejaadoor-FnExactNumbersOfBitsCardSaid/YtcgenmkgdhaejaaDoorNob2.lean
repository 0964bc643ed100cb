/- Numbers read back from their bits: the program's guess. -/
import Derived.Test.YtcgenmkgdhaejaaDoorNob1
import Derived.IntWalk
namespace Go.Proofs.YtcgenmkgdhaejaaDoor
set_option linter.unusedSimpArgs false
set_option linter.unusedVariables false
open Go.RowKit

theorem trim_any (r : List UInt8) (c : UInt8) (hc : c.toNat < 128) :
    ∃ T : List UInt8, (r.length : Int) - (T.length : Int) = (lead c r : Nat) ∧ T.length ≤ r.length ∧ ∀ W : World, Calls Tryd.prog 45 #[.string ⟨r.toArray⟩, .string ⟨#[c]⟩] W fun e w' => e = .returned (.string ⟨T.toArray⟩) ∧ w' = W := by
  obtain ⟨h1, h2⟩ := trimL_len c r
  refine ⟨Lib.trimLeftB r c, by omega, h2, fun W => ?_⟩
  have h := Tryd.strings_TrimLeft_one ⟨r.toArray⟩ c hc W
  simpa using h
theorem bits_dt {r : List UInt8} (hb : ∀ c ∈ r, c = 48 ∨ c = 49) (a b : Nat) : ∀ c ∈ (r.drop a).take b, c = 48 ∨ c = 49 := fun c hc => hb c (List.mem_of_mem_drop (List.mem_of_mem_take hc))

set_option maxRecDepth 100000 in
set_option maxHeartbeats 1000000 in
theorem guess0_any (k : Int) (r : List UInt8) (w : World) (hl : r.length ≤ 512) :
    Calls Tryd.prog 30 #[.int .i64 0, .int .i64 k, .string ⟨r.toArray⟩] w fun e w' => e = .returned (.int .i64 ((lead 49 r : Nat) + 1 : Int)) ∧ w = w' := by
  obtain ⟨T1, t1, u1, h1⟩ := trim_any r 49 (by decide)
  obtain ⟨T2, t2, u2, h2⟩ := trim_any r 48 (by decide)
  have HT1 := Lib.hid h1
  have HT2 := Lib.hid h2
  clear h1 h2
  have b1 := lead_le 49 r
  have b2 := lead_le 48 r
  generalize lead 49 r = o at *
  generalize lead 48 r = z at *
  go_enter Tryd.func30, Tryd.ntmps30
  go_wp2_with (first
    | (go_at_call 45; with_reducible refine (HT1.out _).mono ?_; rintro e w1 ⟨rfl, rfl⟩)
    | (go_at_call 45; with_reducible refine (HT2.out _).mono ?_; rintro e w1 ⟨rfl, rfl⟩))
  go_ret
  exact ⟨rfl, rfl⟩

set_option maxRecDepth 100000 in
set_option maxHeartbeats 1000000 in
theorem guess1_any (k : Int) (r : List UInt8) (w : World) (hl : r.length ≤ 512) (hb : ∀ c ∈ r, c = 48 ∨ c = 49) :
    Calls Tryd.prog 30 #[.int .i64 1, .int .i64 k, .string ⟨r.toArray⟩] w fun e w' => e = .returned (.int .i64 ((numI ((r.drop (lead 48 r)).take (lead 48 r + 1)) : Nat) : Int)) ∧ w = w' := by
  obtain ⟨T1, t1, u1, h1⟩ := trim_any r 49 (by decide)
  obtain ⟨T2, t2, u2, h2⟩ := trim_any r 48 (by decide)
  have HT1 := Lib.hid h1
  have HT2 := Lib.hid h2
  clear h1 h2
  have b1 := lead_le 49 r
  have b2 := lead_le 48 r
  generalize lead 49 r = o at *
  generalize lead 48 r = z at *
  have hcut := run_cut_l r z b2
  have hdl : (r.drop z).length ≤ 512 := by rw [List.length_drop]; omega
  have hh := fun W => headOf_any (r.drop z) (z + 1) W (by omega) (by omega)
  have htl : ((r.drop z).take (z + 1)).length ≤ 512 := by rw [List.length_take]; omega
  have hn := fun W => number_any ((r.drop z).take (z + 1)) W (by omega) (bits_dt hb _ _)
  rw [Int.natCast_add, show ((1 : Nat) : Int) = 1 from rfl] at hh
  have HH := Lib.hid hh
  have HN := Lib.hid hn
  clear hb hh hn
  generalize numI ((r.drop z).take (z + 1)) = g at *
  generalize (r.drop z).take (z + 1) = x at *
  generalize r.drop z = y at *
  go_enter Tryd.func30, Tryd.ntmps30
  go_wp2_with (first
    | (go_at_call 45; with_reducible refine (HT1.out _).mono ?_; rintro e w1 ⟨rfl, rfl⟩)
    | (go_at_call 45; with_reducible refine (HT2.out _).mono ?_; rintro e w1 ⟨rfl, rfl⟩)
    | (go_at_call 47; refine (HH.out _).mono ?_; rintro e w1 ⟨rfl, rfl⟩)
    | (go_at_call 46; refine (HN.out _).mono ?_; rintro e w1 ⟨rfl, rfl⟩))
  go_ret
  exact ⟨rfl, rfl⟩

end Go.Proofs.YtcgenmkgdhaejaaDoor
