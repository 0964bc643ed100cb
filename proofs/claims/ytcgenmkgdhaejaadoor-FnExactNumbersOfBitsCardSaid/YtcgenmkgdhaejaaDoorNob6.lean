/- Numbers read back from their bits: the reference's guess at Fibonacci numbers. -/
import Derived.Test.YtcgenmkgdhaejaaDoorNob5
import Derived.Test.YtcgenmkgdhaejaaDoorNobF
namespace Go.Proofs.YtcgenmkgdhaejaaDoor
set_option linter.unusedSimpArgs false
set_option linter.unusedVariables false
open Go.RowKit
theorem fib_one {r : List UInt8} {K n K' n' : Nat} (h : FibAt r K n) (h' : FibAt r K' n') : n = n' := by
  have e : K = K' := by
    rcases Nat.lt_trichotomy K K' with a | a | a
    · exact absurd h.two (h'.apart K a h.one)
    · exact a
    · exact absurd h'.two (h.apart K' a h'.one)
  subst e
  rw [← h.sum, ← h'.sum]
theorem cand3_of (k : Int) {r : List UInt8} {K n : Nat} (h : FibAt r K n) : Cand 3 k r (n : Int) := cand3 k fun _ _ _ _ h' => by rw [fib_one h h']
theorem cand3_no (k : Int) {r : List UInt8} (h : ¬ ∃ K n, n ≤ 1000000 ∧ FibAt r K n) (v : Int) : Cand 3 k r v := cand3 k fun K n _ h2 h' => absurd ⟨K, n, h2, h'⟩ h
theorem fsum_take {r : List UInt8} {j : Nat} {c : UInt8} (h : r[j]? = some c) : fsum 0 (r.take (j + 1)) = fsum 0 (r.take j) + (if c = 49 then fibN j else 0) := by
  obtain ⟨hj, hc⟩ := List.getElem?_eq_some_iff.1 h
  rw [List.take_add_one, h, Option.toList_some, fsum_snoc, List.length_take, Nat.zero_add, Nat.min_eq_left (by omega)]
theorem fsum_mono (r : List UInt8) (j : Nat) : ∀ d, fsum 0 (r.take j) ≤ fsum 0 (r.take (j + d))
  | 0 => Nat.le_refl _
  | d + 1 => by
    refine Nat.le_trans (fsum_mono r j d) ?_
    by_cases h : j + d < r.length
    · have := fsum_take (List.getElem?_eq_getElem h)
      rw [show j + (d + 1) = j + d + 1 by omega, this]; omega
    · rw [List.take_of_length_le (by omega), List.take_of_length_le (by omega)]; exact Nat.le_refl _

set_option maxRecDepth 100000 in
set_option maxHeartbeats 4000000 in
theorem guessS3_any (k : Int) (l : List UInt8) (p : Nat) (w : World) (hl : l.length ≤ 512) (hp : p ≤ l.length) :
    Calls Tryd.prog 25 #[.int .i64 3, .int .i64 k, .string ⟨l.toArray⟩, .int .i64 (p : Int)] w fun e w' => ∃ v : Int, e = .returned (.int .i64 v) ∧ w = w' ∧ Cand 3 k (l.drop p) v := by
  have hget : ∀ j, l[p + j]? = (l.drop p)[j]? := fun j => by rw [List.getElem?_drop]
  have hdl : (l.drop p).length = l.length - p := List.length_drop
  by_cases hex : ∃ K n, n ≤ 1000000 ∧ FibAt (l.drop p) K n
  · obtain ⟨K, n, hn, hF⟩ := hex
    have HCA := Lib.hid (cand3_of k hF)
    have HC : Hid (∀ v, v = (n : Int) → Cand 3 k (l.drop p) v) := by show ∀ v, _; intro v hv; rw [hv]; exact HCA.out
    have hK := hF.top
    have hKl : p + K + 1 < l.length := by have := hF.len; omega
    have H1 : Hid (l[p + K]? = some 49) := (hget K).trans hF.one
    have H2 : Hid (l[p + (K + 1)]? = some 49) := (hget (K + 1)).trans hF.two
    have H3 : Hid (∀ i : Nat, i < K → l[p + i]? = some 49 → l[p + (i + 1)]? ≠ some 49) := by
      show ∀ i : Nat, _
      intro i hi
      rw [hget, hget]; exact hF.apart i hi
    have H4 : Hid (∀ j c, l[p + j]? = some c → fsum 0 ((l.drop p).take (j + 1)) = fsum 0 ((l.drop p).take j) + (if c = 49 then fibN j else 0)) := by
      show ∀ j c, _
      intro j c hc
      exact fsum_take (by rw [← hget]; exact hc)
    have H5 : Hid (∀ j, j ≤ K + 1 → fsum 0 ((l.drop p).take j) ≤ n) := by
      show ∀ j, _
      intro j hj
      have := fsum_mono (l.drop p) j (K + 1 - j)
      rw [show j + (K + 1 - j) = K + 1 by omega, hF.sum] at this
      exact this
    have H6 := Lib.hid hF.sum
    have H7 : Hid (∀ j, j ≤ K → fibN j ≤ n ∧ fibN (j + 1) ≤ 2 * fibN j ∧ fibN (j + 2) = fibN (j + 1) + fibN j) := by
      show ∀ j, _
      intro j hj
      exact ⟨Nat.le_trans (fib_mono hj) hF.big, (fib_pos j).2.2, rfl⟩
    clear hF hget hdl HCA
    generalize l.drop p = r at *
    go_enter Tryd.func25, Tryd.ntmps25
    go_wp2
    go_loop [12, 13, 14, 15, 16] (fun a b s i _ => ∃ j m : Nat, j ≤ K ∧ a = .int .i64 (fibN j : Nat) ∧ b = .int .i64 (fibN (j + 1) : Nat) ∧ s = .int .i64 (m : Int) ∧ i = .int .i64 ((p + j : Nat) : Int) ∧ Hid (m = fsum 0 (r.take j))) (fun _ _ _ i _ => l.length - (intOf i).toNat)
    case atStart => exact ⟨0, 0, Nat.zero_le _, rfl, rfl, rfl, rfl, Lib.hid rfl⟩
    case round =>
      obtain ⟨j, m, hj, rfl, rfl, rfl, rfl, hm⟩ := hrel
      obtain ⟨f1, f2, f3⟩ := H7.out j hj
      have hmn := H5.out j (by omega)
      rw [← hm.out] at hmn
      have HF3 := Lib.hid f3
      clear f3
      have HFJ : Hid (∀ c, l[p + j]? = some c → fsum 0 (r.take (j + 1)) = m + (if c = 49 then fibN j else 0)) := by
        show ∀ c, _
        intro c hc
        rw [H4.out j c hc, ← hm.out]
      generalize fibN j = A at *
      obtain ⟨B, hB⟩ : ∃ B, B = fibN (j + 1) := ⟨_, rfl⟩
      rw [← hB] at HF3 f2 ⊢
      have HBB := Lib.hid hB
      clear hB
      obtain ⟨i, hi⟩ : ∃ i, i = p + j := ⟨_, rfl⟩
      have hi1 : p + (j + 1) = i + 1 := by omega
      have hlt : i + 1 < l.length := by omega
      rw [← hi] at HFJ ⊢
      have HI := Lib.hid hi
      have hkb : i < (ByteArray.mk l.toArray).size := by show i < l.toArray.size; simp; omega
      have hkb1 : i + 1 < (ByteArray.mk l.toArray).size := by show i + 1 < l.toArray.size; simp; omega
      obtain ⟨c, hc⟩ : ∃ c, (ByteArray.mk l.toArray)[i] = c := ⟨_, rfl⟩
      obtain ⟨d, hd⟩ : ∃ d, (ByteArray.mk l.toArray)[i + 1] = d := ⟨_, rfl⟩
      have hcl : l[i]? = some c := by rw [List.getElem?_eq_getElem (by omega), ← hc]; rfl
      have hdl : l[i + 1]? = some d := by rw [List.getElem?_eq_getElem (by omega), ← hd]; rfl
      have HS := Lib.hid (HFJ.out c hcl)
      have k1 : (i : Int) < (l.length : Int) := by omega
      have k2 : (i : Int) + 1 < (l.length : Int) := by omega
      have k3 : (A : Int) ≤ 1000000 := by omega
      have H2' : Hid (j = K → c = 49 ∧ d = 49) := by
        show _ → _
        intro e
        have a1 := H1.out
        have a2 := H2.out
        rw [← e, ← hi] at a1
        rw [← e, hi1] at a2
        rw [hcl] at a1; rw [hdl] at a2
        exact ⟨by simpa using a1, by simpa using a2⟩
      have H3' : Hid (j < K → c = 49 → d ≠ 49) := by
        show _ → _ → _
        intro e hc49 hd49
        refine H3.out j e ?_ ?_
        · rw [← hi, hcl, hc49]
        · rw [hi1, hdl, hd49]
      clear hcl hdl HFJ hi hi1
      by_cases hjK : j = K
      · obtain ⟨rfl, rfl⟩ := H2'.out hjK
        have HV : Hid (m + A = n) := by
          have h := HS.out
          rw [if_pos rfl, hjK, H6.out] at h
          exact h.symm
        clear HS H2' H3' hjK
        go_wp2
        go_ret
        exact ⟨_, rfl, rfl, HC.out _ (by have := HV.out; omega)⟩
      · have hjK2 : j < K := by omega
        clear hjK
        by_cases hc49 : c = 49
        · have hd49 := H3'.out hjK2 hc49
          subst hc49
          have e2 : ¬ (d.toNat : Int) = 49 := fun h => hd49 (UInt8.toNat_inj.1 (by show d.toNat = 49; omega))
          have e3 : ¬ d.toNat = 49 := by omega
          have HV : Hid (m + A = fsum 0 (r.take (j + 1))) := by
            have h := HS.out
            rw [if_pos rfl] at h
            exact h.symm
          clear HS H2' H3' hd49
          go_wp2
          go_round
          case rel => exact ⟨j + 1, m + A, by omega, by rw [← HBB.out], by show _ = Value.int .i64 ((fibN (j + 2) : Nat) : Int); rw [HF3.out]; go_num, by go_num, by have := HI.out; rw [show p + (j + 1) = i + 1 by omega]; go_num, HV⟩
          case measure => simp [intOf]; omega
        · have e2 : ¬ (c.toNat : Int) = 49 := fun h => hc49 (UInt8.toNat_inj.1 (by show c.toNat = 49; omega))
          have e3 : ¬ c.toNat = 49 := by omega
          have HV : Hid (m = fsum 0 (r.take (j + 1))) := by
            have h := HS.out
            rw [if_neg hc49, Nat.add_zero] at h
            exact h.symm
          clear HS H2' H3' hc49
          go_wp2
          go_round
          case rel => exact ⟨j + 1, m, by omega, by rw [← HBB.out], by show _ = Value.int .i64 ((fibN (j + 2) : Nat) : Int); rw [HF3.out]; go_num, rfl, by have := HI.out; rw [show p + (j + 1) = i + 1 by omega]; go_num, HV⟩
          case measure => simp [intOf]; omega
  · have HC := Lib.hid (fun v => cand3_no k hex v)
    clear hex hget hdl
    go_enter Tryd.func25, Tryd.ntmps25
    go_wp2
    go_loop [12, 13, 14, 15, 16] (fun a b s i _ => ∃ (A B S : Int) (j : Nat), j ≤ l.length ∧ a = .int .i64 A ∧ b = .int .i64 B ∧ s = .int .i64 S ∧ i = .int .i64 (j : Int)) (fun _ _ _ i _ => l.length - (intOf i).toNat)
    case atStart => exact ⟨1, 2, 0, p, hp, rfl, rfl, rfl, rfl⟩
    case round =>
      obtain ⟨A, B, S, i, hi, rfl, rfl, rfl, rfl⟩ := hrel
      by_cases hlt : i < l.length
      · have k1 : (i : Int) < (l.length : Int) := by omega
        by_cases hA : A ≤ 1000000
        · have hkb : i < (ByteArray.mk l.toArray).size := by show i < l.toArray.size; simpa using hlt
          obtain ⟨c, hc⟩ : ∃ c, (ByteArray.mk l.toArray)[i] = c := ⟨_, rfl⟩
          by_cases hc49 : c = 49
          · subst hc49
            by_cases hl1 : i + 1 < l.length
            · have k2 : (i : Int) + 1 < (l.length : Int) := by omega
              have hkb1 : i + 1 < (ByteArray.mk l.toArray).size := by show i + 1 < l.toArray.size; simpa using hl1
              obtain ⟨d, hd⟩ : ∃ d, (ByteArray.mk l.toArray)[i + 1] = d := ⟨_, rfl⟩
              by_cases hd49 : d = 49
              · subst hd49
                go_wp2
                go_ret
                exact ⟨_, rfl, rfl, HC.out _⟩
              · have e2 : ¬ (d.toNat : Int) = 49 := fun h => hd49 (UInt8.toNat_inj.1 (by show d.toNat = 49; omega))
                have e3 : ¬ d.toNat = 49 := by omega
                clear hd49
                go_wp2
                go_round
                case rel => exact ⟨_, _, _, i + 1, by omega, rfl, rfl, rfl, by go_num⟩
                case measure => simp [intOf]; omega
            · have k2 : ¬ (i : Int) + 1 < (l.length : Int) := by omega
              go_wp2
              go_round
              case rel => exact ⟨_, _, _, i + 1, by omega, rfl, rfl, rfl, by go_num⟩
              case measure => simp [intOf]; omega
          · have e2 : ¬ (c.toNat : Int) = 49 := fun h => hc49 (UInt8.toNat_inj.1 (by show c.toNat = 49; omega))
            have e3 : ¬ c.toNat = 49 := by omega
            clear hc49
            go_wp2
            go_round
            case rel => exact ⟨_, _, _, i + 1, by omega, rfl, rfl, rfl, by go_num⟩
            case measure => simp [intOf]; omega
        · go_wp2
          go_ret
          exact ⟨_, rfl, rfl, HC.out _⟩
      · have k1 : ¬ (i : Int) < (l.length : Int) := by omega
        go_wp2
        go_ret
        exact ⟨_, rfl, rfl, HC.out _⟩

end Go.Proofs.YtcgenmkgdhaejaaDoor
