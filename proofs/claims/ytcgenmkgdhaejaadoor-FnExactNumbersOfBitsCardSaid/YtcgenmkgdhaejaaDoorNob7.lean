/- Numbers read back from their bits: the program's guess at Fibonacci numbers. -/
import Derived.Test.YtcgenmkgdhaejaaDoorNob6
import Derived.Test.YtcgenmkgdhaejaaDoorNob3
import Derived.Test.YtcgenmkgdhaejaaDoorRd
namespace Go.Proofs.YtcgenmkgdhaejaaDoor
set_option linter.unusedSimpArgs false
set_option linter.unusedVariables false
open Go.RowKit
theorem I64_wrap (x : Int) : I64 (wrap64 x) := I64.of_wf (wrap64_wf x)

set_option maxRecDepth 100000 in
set_option maxHeartbeats 4000000 in
theorem guess3_any (k : Int) (l : List UInt8) (w : World) (hl : l.length ≤ 512) :
    Calls Tryd.prog 30 #[.int .i64 3, .int .i64 k, .string ⟨l.toArray⟩] w fun e w' => ∃ v : Int, I64 v ∧ e = .returned (.int .i64 v) ∧ w = w' ∧ Cand 3 k l v := by
  obtain ⟨T1, t1, u1, h1⟩ := trim_any l 49 (by decide)
  obtain ⟨T2, t2, u2, h2⟩ := trim_any l 48 (by decide)
  have HT1 := Lib.hid h1
  have HT2 := Lib.hid h2
  clear h1 h2
  have b1 := lead_le 49 l
  have b2 := lead_le 48 l
  generalize lead 49 l = o at *
  generalize lead 48 l = z at *
  by_cases hex : ∃ K n, n ≤ 1000000 ∧ FibAt l K n
  · obtain ⟨K, n, hn, hF⟩ := hex
    have HCA := Lib.hid (cand3_of k hF)
    have HC : Hid (∀ v, v = (n : Int) → Cand 3 k l v) := by show ∀ v, _; intro v hv; rw [hv]; exact HCA.out
    have hK := hF.top
    have hKl : K + 1 < l.length := hF.len
    have H1 : Hid (l[K]? = some 49) := hF.one
    have H2 : Hid (l[K + 1]? = some 49) := hF.two
    have H3 : Hid (∀ i : Nat, i < K → l[i]? = some 49 → l[i + 1]? ≠ some 49) := hF.apart
    have H5 : Hid (∀ j, j ≤ K + 1 → fsum 0 (l.take j) ≤ n) := by
      show ∀ j, _
      intro j hj
      have := fsum_mono l j (K + 1 - j)
      rw [show j + (K + 1 - j) = K + 1 by omega, hF.sum] at this
      exact this
    have H6 := Lib.hid hF.sum
    have H7 : Hid (∀ j, j ≤ K + 1 → fibN j ≤ 2 * n ∧ fibN (j + 1) ≤ 2 * fibN j ∧ fibN (j + 2) = fibN (j + 1) + fibN j) := by
      show ∀ j, _
      intro j hj
      have a := fib_mono hj
      have b := (fib_pos K).2.2
      have c := hF.big
      exact ⟨by omega, (fib_pos j).2.2, rfl⟩
    clear hF HCA
    go_enter Tryd.func30, Tryd.ntmps30
    go_wp2_with (first
      | (go_at_call 45; with_reducible refine (HT1.out _).mono ?_; rintro e w1 ⟨rfl, rfl⟩)
      | (go_at_call 45; with_reducible refine (HT2.out _).mono ?_; rintro e w1 ⟨rfl, rfl⟩))
    go_loop [10, 11, 12, 13] (fun s a b i => ∃ j m : Nat, j ≤ K + 1 ∧ a = .int .i64 (fibN j : Nat) ∧ b = .int .i64 (fibN (j + 1) : Nat) ∧ s = .int .i64 (m : Int) ∧ i = .int .i64 (j : Int) ∧ Hid (m = fsum 0 (l.take j))) (fun _ _ _ i => l.length - (intOf i).toNat)
    case atStart => exact ⟨0, 0, Nat.zero_le _, rfl, rfl, rfl, rfl, Lib.hid rfl⟩
    case round =>
      obtain ⟨j, m, hj, rfl, rfl, rfl, rfl, hm⟩ := hrel
      obtain ⟨f1, f2, f3⟩ := H7.out j hj
      have hmn := H5.out j (by omega)
      rw [← hm.out] at hmn
      have HF3 := Lib.hid f3
      clear f3
      have HFJ : Hid (∀ c, l[j]? = some c → fsum 0 (l.take (j + 1)) = m + (if c = 49 then fibN j else 0)) := by
        show ∀ c, _
        intro c hc
        rw [fsum_take hc, ← hm.out]
      generalize fibN j = A at *
      obtain ⟨B, hB⟩ : ∃ B, B = fibN (j + 1) := ⟨_, rfl⟩
      rw [← hB] at HF3 f2 ⊢
      have HBB := Lib.hid hB
      clear hB
      have hlt : j < l.length := by omega
      have hkb : j < (ByteArray.mk l.toArray).size := by show j < l.toArray.size; simp; omega
      obtain ⟨c, hc⟩ : ∃ c, (ByteArray.mk l.toArray)[j] = c := ⟨_, rfl⟩
      have hcl : l[j]? = some c := by rw [List.getElem?_eq_getElem (by omega), ← hc]; rfl
      have HS := Lib.hid (HFJ.out c hcl)
      have k1 : (j : Int) < (l.length : Int) := by omega
      have k3 : (m : Int) ≤ 1000000 := by omega
      by_cases hc49 : c = 49
      · subst hc49
        have HV : Hid (m + A = fsum 0 (l.take (j + 1))) := by
          have h := HS.out
          rw [if_pos rfl] at h
          exact h.symm
        by_cases hj0 : j = 0
        · subst hj0
          have hne : (0 : Nat) ≠ K + 1 := by omega
          clear HS HFJ hcl
          go_wp2
          go_round
          case rel => exact ⟨0 + 1, m + A, by omega, by rw [← HBB.out], by show _ = Value.int .i64 ((fibN (0 + 2) : Nat) : Int); rw [HF3.out]; go_num, by go_num, by go_num, HV⟩
          case measure => simp [intOf]; omega
        · obtain ⟨q, hq⟩ : ∃ q, j = q + 1 := ⟨j - 1, by omega⟩
          have hqb : q < (ByteArray.mk l.toArray).size := by omega
          obtain ⟨d, hd⟩ : ∃ d, (ByteArray.mk l.toArray)[q] = d := ⟨_, rfl⟩
          have hdl : l[q]? = some d := by rw [List.getElem?_eq_getElem (by omega), ← hd]; rfl
          have e1 : (j : Int) - 1 = (q : Int) := by omega
          have k4 : (0 : Int) < (j : Int) := by omega
          have k4n : 0 < j := by omega
          have k4d : decide (0 < j) = true := decide_eq_true k4n
          have HE : Hid (j = K + 1 → d = 49) := by
            show _ → _
            intro e
            have a1 := H1.out
            rw [show K = q by omega, hdl] at a1
            simpa using a1
          have HN : Hid (j ≤ K → d ≠ 49) := by
            show _ → _
            intro e hd49
            refine H3.out q (by omega) ?_ ?_
            · rw [hdl, hd49]
            · rw [← hq]; exact hcl
          clear hdl hq hcl HFJ
          by_cases hjK : j = K + 1
          · have hd49 := HE.out hjK
            subst hd49
            have HVN : Hid (m = n) := by show _ = _; rw [hm.out, hjK, H6.out]
            clear HS HE HN hjK HV
            go_wp2
            go_ret
            exact ⟨_, by have := HVN.out; unfold I64; omega, rfl, rfl, HC.out _ (by have := HVN.out; omega)⟩
          · have hd49 := HN.out (by omega)
            have e2 : ¬ (d.toNat : Int) = 49 := fun h => hd49 (UInt8.toNat_inj.1 (by show d.toNat = 49; omega))
            have e3 : ¬ d.toNat = 49 := by omega
            clear HS HE HN hd49
            go_wp2
            go_round
            case rel => exact ⟨j + 1, m + A, by omega, by rw [← HBB.out], by show _ = Value.int .i64 ((fibN (j + 2) : Nat) : Int); rw [HF3.out]; go_num, by go_num, by go_num, HV⟩
            case measure => simp [intOf]; omega
      · have e2 : ¬ (c.toNat : Int) = 49 := fun h => hc49 (UInt8.toNat_inj.1 (by show c.toNat = 49; omega))
        have e3 : ¬ c.toNat = 49 := by omega
        have HV : Hid (m = fsum 0 (l.take (j + 1))) := by
          have h := HS.out
          rw [if_neg hc49, Nat.add_zero] at h
          exact h.symm
        have HJK : Hid (j ≤ K) := by
          show j ≤ K
          rcases Nat.lt_or_ge K j with h | h
          · exfalso
            have a2 := H2.out
            rw [show K + 1 = j by omega, hcl] at a2
            exact hc49 (by simpa using a2)
          · exact h
        clear HS HFJ hcl hc49
        go_wp2
        go_round
        case rel => exact ⟨j + 1, m, by have := HJK.out; omega, by rw [← HBB.out], by show _ = Value.int .i64 ((fibN (j + 2) : Nat) : Int); rw [HF3.out]; go_num, rfl, by go_num, HV⟩
        case measure => simp [intOf]; omega
  · have HC := Lib.hid (fun v => cand3_no k hex v)
    clear hex
    go_enter Tryd.func30, Tryd.ntmps30
    go_wp2_with (first
      | (go_at_call 45; with_reducible refine (HT1.out _).mono ?_; rintro e w1 ⟨rfl, rfl⟩)
      | (go_at_call 45; with_reducible refine (HT2.out _).mono ?_; rintro e w1 ⟨rfl, rfl⟩))
    go_loop [10, 11, 12, 13] (fun s a b i => ∃ (A B S : Int) (j : Nat), j ≤ l.length ∧ Hid (I64 S) ∧ a = .int .i64 A ∧ b = .int .i64 B ∧ s = .int .i64 S ∧ i = .int .i64 (j : Int)) (fun _ _ _ i => l.length - (intOf i).toNat)
    case atStart => exact ⟨1, 2, 0, 0, Nat.zero_le _, Lib.hid (by unfold I64; omega), rfl, rfl, rfl, rfl⟩
    case round =>
      obtain ⟨A, B, S, i, hi, hS, rfl, rfl, rfl, rfl⟩ := hrel
      by_cases hlt : i < l.length
      · have k1 : (i : Int) < (l.length : Int) := by omega
        by_cases hA : S ≤ 1000000
        · have hkb : i < (ByteArray.mk l.toArray).size := by show i < l.toArray.size; simpa using hlt
          obtain ⟨c, hc⟩ : ∃ c, (ByteArray.mk l.toArray)[i] = c := ⟨_, rfl⟩
          by_cases hc49 : c = 49
          · subst hc49
            by_cases hj0 : i = 0
            · subst hj0
              go_wp2
              go_round
              case rel => exact ⟨_, _, _, 0 + 1, by omega, Lib.hid (I64_wrap _), rfl, rfl, rfl, by go_num⟩
              case measure => simp [intOf]; omega
            · obtain ⟨q, hq⟩ : ∃ q, i = q + 1 := ⟨i - 1, by omega⟩
              have hqb : q < (ByteArray.mk l.toArray).size := by omega
              obtain ⟨d, hd⟩ : ∃ d, (ByteArray.mk l.toArray)[q] = d := ⟨_, rfl⟩
              have e1 : (i : Int) - 1 = (q : Int) := by omega
              have k4 : (0 : Int) < (i : Int) := by omega
              have k4n : 0 < i := by omega
              have k4d : decide (0 < i) = true := decide_eq_true k4n
              clear hq
              by_cases hd49 : d = 49
              · subst hd49
                go_wp2
                go_ret
                exact ⟨_, hS.out, rfl, rfl, HC.out _⟩
              · have e2 : ¬ (d.toNat : Int) = 49 := fun h => hd49 (UInt8.toNat_inj.1 (by show d.toNat = 49; omega))
                have e3 : ¬ d.toNat = 49 := by omega
                clear hd49
                go_wp2
                go_round
                case rel => exact ⟨_, _, _, i + 1, by omega, Lib.hid (I64_wrap _), rfl, rfl, rfl, by go_num⟩
                case measure => simp [intOf]; omega
          · have e2 : ¬ (c.toNat : Int) = 49 := fun h => hc49 (UInt8.toNat_inj.1 (by show c.toNat = 49; omega))
            have e3 : ¬ c.toNat = 49 := by omega
            clear hc49
            go_wp2
            go_round
            case rel => exact ⟨_, _, _, i + 1, by omega, hS, rfl, rfl, rfl, by go_num⟩
            case measure => simp [intOf]; omega
        · go_wp2
          go_ret
          exact ⟨_, hS.out, rfl, rfl, HC.out _⟩
      · have k1 : ¬ (i : Int) < (l.length : Int) := by omega
        go_wp2
        go_ret
        exact ⟨_, hS.out, rfl, rfl, HC.out _⟩

end Go.Proofs.YtcgenmkgdhaejaaDoor
