/- Numbers read back from their bits: the program's guess and text together. -/
import Derived.Test.YtcgenmkgdhaejaaDoorNob7
import Derived.Test.YtcgenmkgdhaejaaDoorFib3
namespace Go.Proofs.YtcgenmkgdhaejaaDoor
set_option linter.unusedSimpArgs false
set_option linter.unusedVariables false
open Go.RowKit
theorem I64_nat {n : Nat} (h : n ≤ 9223372036854775807) : I64 (n : Int) := by unfold I64; omega
theorem guess_any (kind k : Int) (h1 : 0 ≤ kind) (h2 : kind ≤ 4) (k1 : 0 ≤ k) (k2 : k ≤ 20) (r : List UInt8) (w : World) (hl : r.length ≤ 512) (hb : ∀ c ∈ r, c = 48 ∨ c = 49) :
    Calls Tryd.prog 30 #[.int .i64 kind, .int .i64 k, .string ⟨r.toArray⟩] w fun e w' => ∃ v : Int, I64 v ∧ e = .returned (.int .i64 v) ∧ Qu w w' ∧ Cand kind k r v := by
  rcases (by omega : kind = 0 ∨ kind = 1 ∨ kind = 2 ∨ kind = 3 ∨ kind = 4) with rfl | rfl | rfl | rfl | rfl
  · refine (guess0_any k r w hl).mono ?_
    rintro e w' ⟨rfl, rfl⟩
    have := lead_le 49 r
    exact ⟨_, by unfold I64; omega, rfl, Qu.refl _, cand0_i k r⟩
  · refine (guess1_any k r w hl hb).mono ?_
    rintro e w' ⟨rfl, rfl⟩
    have := numI_lt ((r.drop (lead 48 r)).take (lead 48 r + 1))
    exact ⟨_, I64_nat (by omega), rfl, Qu.refl _, cand1_i k r⟩
  · refine (guess2_any k r w hl hb).mono ?_
    rintro e w' ⟨rfl, rfl⟩
    have : gd2_i r ≤ 1048576 := by
      unfold gd2_i
      split
      · omega
      · exact Nat.le_of_lt (numI_lt _)
    exact ⟨_, I64_nat (by omega), rfl, Qu.refl _, cand2_i k r⟩
  · refine (guess3_any k r w hl).mono ?_
    rintro e w' ⟨v, hv, rfl, rfl, hc⟩
    exact ⟨v, hv, rfl, Qu.refl _, hc⟩
  · obtain ⟨q, rfl⟩ : ∃ q : Nat, k = (q : Int) := ⟨k.toNat, by omega⟩
    refine (guess4_any q (by omega) r w hl hb).mono ?_
    rintro e w' ⟨rfl, hq⟩
    have a1 := lead_le 49 r
    have a2 := numI_lt ((r.drop (min r.length (lead 49 r + 1))).take q)
    have hp1 : 2 ^ q ≤ 2 ^ 20 := Nat.pow_le_pow_right (by omega) (by omega)
    have hp2 : lead 49 r * 2 ^ q ≤ 512 * 2 ^ 20 := Nat.mul_le_mul (by omega) hp1
    exact ⟨_, I64_nat (by omega), rfl, hq, cand4_i q r⟩

set_option maxHeartbeats 1000000 in
theorem numberText_any (kind k n : Int) (h1 : 0 ≤ kind) (h2 : kind ≤ 4) (hk : I64 k) (hn : I64 n) (w : World) :
    Calls Tryd.prog 31 #[.int .i64 kind, .int .i64 k, .int .i64 n] w fun e w' => e = .returned (.tuple #[.string (numT kind k n).1, .bool (numT kind k n).2]) ∧ Below w.heap.size w w' := by
  obtain ⟨o, ho⟩ : ∃ o, o = numT kind k n := ⟨_, rfl⟩
  rw [← ho]
  rcases (by omega : kind = 0 ∨ kind = 1 ∨ kind = 2 ∨ kind = 3 ∨ kind = 4) with rfl | rfl | rfl | rfl | rfl
  · have e : o = out_UnaryOf n := ho
    have HU := Lib.hid (fun W => impl_UnaryOf W n hn)
    rw [← e] at HU
    clear e ho
    go_enter Tryd.func31, Tryd.ntmps31
    go_wp2_with (go_at_call 48; refine (HU.out _).mono ?_; rintro e w1 ⟨rfl, hb⟩)
    go_ret2
    exact ⟨rfl, hb⟩
  · have e : o = out_GammaOf n := ho
    have HU := Lib.hid (fun W => impl_GammaOf W n hn)
    rw [← e] at HU
    clear e ho
    go_enter Tryd.func31, Tryd.ntmps31
    go_wp2_with (go_at_call 49; refine (HU.out _).mono ?_; rintro e w1 ⟨rfl, hb⟩)
    go_ret2
    exact ⟨rfl, hb⟩
  · have e : o = out_DeltaOf n := ho
    have HU := Lib.hid (fun W => impl_DeltaOf W n hn)
    rw [← e] at HU
    clear e ho
    go_enter Tryd.func31, Tryd.ntmps31
    go_wp2_with (go_at_call 50; refine (HU.out _).mono ?_; rintro e w1 ⟨rfl, hb⟩)
    go_ret2
    exact ⟨rfl, hb⟩
  · have e : o = out_FibonacciOf n := ho
    have HU := Lib.hid (fun W => impl_FibonacciOf W n hn)
    rw [← e] at HU
    clear e ho
    go_enter Tryd.func31, Tryd.ntmps31
    go_wp2_with (go_at_call 51; refine (HU.out _).mono ?_; rintro e w1 ⟨rfl, hb⟩)
    go_ret2
    exact ⟨rfl, hb⟩
  · have e : o = out_RiceOf n k := ho
    have HU := Lib.hid (fun W => impl_RiceOf W n hn k hk)
    rw [← e] at HU
    clear e ho
    go_enter Tryd.func31, Tryd.ntmps31
    go_wp2_with (go_at_call 52; refine (HU.out _).mono ?_; rintro e w1 ⟨rfl, hb⟩)
    go_ret2
    exact ⟨rfl, hb⟩

end Go.Proofs.YtcgenmkgdhaejaaDoor
