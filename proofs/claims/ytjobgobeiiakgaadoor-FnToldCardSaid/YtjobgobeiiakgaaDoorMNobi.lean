/- Numbers read back from their bits: the program's guess at Fibonacci numbers. -/
import Derived.Test.YtjobgobeiiakgaaDoorMNob6
import Derived.Test.YtjobgobeiiakgaaDoorMNob3
import Derived.Test.YtjobgobeiiakgaaDoorMRd
import Derived.Test.YtjobgobeiiakgaaDoorMFib3
import Derived.Test.YtjobgobeiiakgaaDoorMNobE
import Derived.Test.YtjobgobeiiakgaaDoorMDlt
namespace Go.Proofs.YtjobgobeiiakgaaDoor
set_option linter.unusedSimpArgs false
set_option linter.unusedVariables false
open Go.RowKit
theorem I64_wrap (x : Int) : I64 (wrap64 x) := I64.of_wf (wrap64_wf x)

set_option maxRecDepth 100000 in
set_option maxHeartbeats 4000000 in
theorem guess3_any (k : Int) (l : List UInt8) (w : World) (hl : l.length ≤ 512) :
    Calls Tryd.prog 39 #[.int .i64 3, .int .i64 k, .string ⟨l.toArray⟩] w fun e w' => ∃ v : Int, I64 v ∧ e = .returned (.int .i64 v) ∧ w = w' ∧ Cand 3 k l v := by
  obtain ⟨T1, t1, u1, h1⟩ := trim_any l 49 (by decide)
  obtain ⟨T2, t2, u2, h2⟩ := trim_any l 48 (by decide)
  have HT1 := Lib.hid h1
  have HT2 := Lib.hid h2
  clear h1 h2
  have b1 := lead_le 49 l
  have b2 := lead_le 48 l
  generalize lead 49 l = o at *
  generalize lead 48 l = z at *
  by_cases hex : ∃ K n, n ≤ 1000000 ∧ FibAt l K n
  · obtain ⟨K, n, hn, hF⟩ := hex
    have HCA := Lib.hid (cand3_of k hF)
    have HC : Hid (∀ v, v = (n : Int) → Cand 3 k l v) := by show ∀ v, _; intro v hv; rw [hv]; exact HCA.out
    have hK := hF.top
    have hKl : K + 1 < l.length := hF.len
    have H1 : Hid (l[K]? = some 49) := hF.one
    have H2 : Hid (l[K + 1]? = some 49) := hF.two
    have H3 : Hid (∀ i : Nat, i < K → l[i]? = some 49 → l[i + 1]? ≠ some 49) := hF.apart
    have H5 : Hid (∀ j, j ≤ K + 1 → fsum 0 (l.take j) ≤ n) := by
      show ∀ j, _
      intro j hj
      have := fsum_mono l j (K + 1 - j)
      rw [show j + (K + 1 - j) = K + 1 by omega, hF.sum] at this
      exact this
    have H6 := Lib.hid hF.sum
    have H7 : Hid (∀ j, j ≤ K + 1 → fibN j ≤ 2 * n ∧ fibN (j + 1) ≤ 2 * fibN j ∧ fibN (j + 2) = fibN (j + 1) + fibN j) := by
      show ∀ j, _
      intro j hj
      have a := fib_mono hj
      have b := (fib_pos K).2.2
      have c := hF.big
      exact ⟨by omega, (fib_pos j).2.2, rfl⟩
    clear hF HCA
    go_enter Tryd.func39, Tryd.ntmps39
    go_wp2_with (first
      | (go_at_call 64; with_reducible refine (HT1.out _).mono ?_; rintro e w1 ⟨rfl, rfl⟩)
      | (go_at_call 64; with_reducible refine (HT2.out _).mono ?_; rintro e w1 ⟨rfl, rfl⟩))
    go_loop [10, 11, 12, 13] (fun s a b i => ∃ j m : Nat, j ≤ K + 1 ∧ a = .int .i64 (fibN j : Nat) ∧ b = .int .i64 (fibN (j + 1) : Nat) ∧ s = .int .i64 (m : Int) ∧ i = .int .i64 (j : Int) ∧ Hid (m = fsum 0 (l.take j))) (fun _ _ _ i => l.length - (intOf i).toNat)
    case atStart => exact ⟨0, 0, Nat.zero_le _, rfl, rfl, rfl, rfl, Lib.hid rfl⟩
    case round =>
      obtain ⟨j, m, hj, rfl, rfl, rfl, rfl, hm⟩ := hrel
      obtain ⟨f1, f2, f3⟩ := H7.out j hj
      have hmn := H5.out j (by omega)
      rw [← hm.out] at hmn
      have HF3 := Lib.hid f3
      clear f3
      have HFJ : Hid (∀ c, l[j]? = some c → fsum 0 (l.take (j + 1)) = m + (if c = 49 then fibN j else 0)) := by
        show ∀ c, _
        intro c hc
        rw [fsum_take hc, ← hm.out]
      generalize fibN j = A at *
      obtain ⟨B, hB⟩ : ∃ B, B = fibN (j + 1) := ⟨_, rfl⟩
      rw [← hB] at HF3 f2 ⊢
      have HBB := Lib.hid hB
      clear hB
      have hlt : j < l.length := by omega
      have hkb : j < (ByteArray.mk l.toArray).size := by show j < l.toArray.size; simp; omega
      obtain ⟨c, hc⟩ : ∃ c, (ByteArray.mk l.toArray)[j] = c := ⟨_, rfl⟩
      have hcl : l[j]? = some c := by rw [List.getElem?_eq_getElem (by omega), ← hc]; rfl
      have HS := Lib.hid (HFJ.out c hcl)
      have k1 : (j : Int) < (l.length : Int) := by omega
      have k3 : (m : Int) ≤ 1000000 := by omega
      by_cases hc49 : c = 49
      · subst hc49
        have HV : Hid (m + A = fsum 0 (l.take (j + 1))) := by
          have h := HS.out
          rw [if_pos rfl] at h
          exact h.symm
        by_cases hj0 : j = 0
        · subst hj0
          have hne : (0 : Nat) ≠ K + 1 := by omega
          clear HS HFJ hcl
          go_wp2
          go_round
          case rel => exact ⟨0 + 1, m + A, by omega, by rw [← HBB.out], by show _ = Value.int .i64 ((fibN (0 + 2) : Nat) : Int); rw [HF3.out]; go_num, by go_num, by go_num, HV⟩
          case measure => simp [intOf]; omega
        · obtain ⟨q, hq⟩ : ∃ q, j = q + 1 := ⟨j - 1, by omega⟩
          have hqb : q < (ByteArray.mk l.toArray).size := by omega
          obtain ⟨d, hd⟩ : ∃ d, (ByteArray.mk l.toArray)[q] = d := ⟨_, rfl⟩
          have hdl : l[q]? = some d := by rw [List.getElem?_eq_getElem (by omega), ← hd]; rfl
          have e1 : (j : Int) - 1 = (q : Int) := by omega
          have k4 : (0 : Int) < (j : Int) := by omega
          have k4n : 0 < j := by omega
          have k4d : decide (0 < j) = true := decide_eq_true k4n
          have HE : Hid (j = K + 1 → d = 49) := by
            show _ → _
            intro e
            have a1 := H1.out
            rw [show K = q by omega, hdl] at a1
            simpa using a1
          have HN : Hid (j ≤ K → d ≠ 49) := by
            show _ → _
            intro e hd49
            refine H3.out q (by omega) ?_ ?_
            · rw [hdl, hd49]
            · rw [← hq]; exact hcl
          clear hdl hq hcl HFJ
          by_cases hjK : j = K + 1
          · have hd49 := HE.out hjK
            subst hd49
            have HVN : Hid (m = n) := by show _ = _; rw [hm.out, hjK, H6.out]
            clear HS HE HN hjK HV
            go_wp2
            go_ret
            exact ⟨_, by have := HVN.out; unfold I64; omega, rfl, rfl, HC.out _ (by have := HVN.out; omega)⟩
          · have hd49 := HN.out (by omega)
            have e2 : ¬ (d.toNat : Int) = 49 := fun h => hd49 (UInt8.toNat_inj.1 (by show d.toNat = 49; omega))
            have e3 : ¬ d.toNat = 49 := by omega
            clear HS HE HN hd49
            go_wp2
            go_round
            case rel => exact ⟨j + 1, m + A, by omega, by rw [← HBB.out], by show _ = Value.int .i64 ((fibN (j + 2) : Nat) : Int); rw [HF3.out]; go_num, by go_num, by go_num, HV⟩
            case measure => simp [intOf]; omega
      · have e2 : ¬ (c.toNat : Int) = 49 := fun h => hc49 (UInt8.toNat_inj.1 (by show c.toNat = 49; omega))
        have e3 : ¬ c.toNat = 49 := by omega
        have HV : Hid (m = fsum 0 (l.take (j + 1))) := by
          have h := HS.out
          rw [if_neg hc49, Nat.add_zero] at h
          exact h.symm
        have HJK : Hid (j ≤ K) := by
          show j ≤ K
          rcases Nat.lt_or_ge K j with h | h
          · exfalso
            have a2 := H2.out
            rw [show K + 1 = j by omega, hcl] at a2
            exact hc49 (by simpa using a2)
          · exact h
        clear HS HFJ hcl hc49
        go_wp2
        go_round
        case rel => exact ⟨j + 1, m, by have := HJK.out; omega, by rw [← HBB.out], by show _ = Value.int .i64 ((fibN (j + 2) : Nat) : Int); rw [HF3.out]; go_num, rfl, by go_num, HV⟩
        case measure => simp [intOf]; omega
  · have HC := Lib.hid (fun v => cand3_no k hex v)
    clear hex
    go_enter Tryd.func39, Tryd.ntmps39
    go_wp2_with (first
      | (go_at_call 64; with_reducible refine (HT1.out _).mono ?_; rintro e w1 ⟨rfl, rfl⟩)
      | (go_at_call 64; with_reducible refine (HT2.out _).mono ?_; rintro e w1 ⟨rfl, rfl⟩))
    go_loop [10, 11, 12, 13] (fun s a b i => ∃ (A B S : Int) (j : Nat), j ≤ l.length ∧ Hid (I64 S) ∧ a = .int .i64 A ∧ b = .int .i64 B ∧ s = .int .i64 S ∧ i = .int .i64 (j : Int)) (fun _ _ _ i => l.length - (intOf i).toNat)
    case atStart => exact ⟨1, 2, 0, 0, Nat.zero_le _, Lib.hid (by unfold I64; omega), rfl, rfl, rfl, rfl⟩
    case round =>
      obtain ⟨A, B, S, i, hi, hS, rfl, rfl, rfl, rfl⟩ := hrel
      by_cases hlt : i < l.length
      · have k1 : (i : Int) < (l.length : Int) := by omega
        by_cases hA : S ≤ 1000000
        · have hkb : i < (ByteArray.mk l.toArray).size := by show i < l.toArray.size; simpa using hlt
          obtain ⟨c, hc⟩ : ∃ c, (ByteArray.mk l.toArray)[i] = c := ⟨_, rfl⟩
          by_cases hc49 : c = 49
          · subst hc49
            by_cases hj0 : i = 0
            · subst hj0
              go_wp2
              go_round
              case rel => exact ⟨_, _, _, 0 + 1, by omega, Lib.hid (I64_wrap _), rfl, rfl, rfl, by go_num⟩
              case measure => simp [intOf]; omega
            · obtain ⟨q, hq⟩ : ∃ q, i = q + 1 := ⟨i - 1, by omega⟩
              have hqb : q < (ByteArray.mk l.toArray).size := by omega
              obtain ⟨d, hd⟩ : ∃ d, (ByteArray.mk l.toArray)[q] = d := ⟨_, rfl⟩
              have e1 : (i : Int) - 1 = (q : Int) := by omega
              have k4 : (0 : Int) < (i : Int) := by omega
              have k4n : 0 < i := by omega
              have k4d : decide (0 < i) = true := decide_eq_true k4n
              clear hq
              by_cases hd49 : d = 49
              · subst hd49
                go_wp2
                go_ret
                exact ⟨_, hS.out, rfl, rfl, HC.out _⟩
              · have e2 : ¬ (d.toNat : Int) = 49 := fun h => hd49 (UInt8.toNat_inj.1 (by show d.toNat = 49; omega))
                have e3 : ¬ d.toNat = 49 := by omega
                clear hd49
                go_wp2
                go_round
                case rel => exact ⟨_, _, _, i + 1, by omega, Lib.hid (I64_wrap _), rfl, rfl, rfl, by go_num⟩
                case measure => simp [intOf]; omega
          · have e2 : ¬ (c.toNat : Int) = 49 := fun h => hc49 (UInt8.toNat_inj.1 (by show c.toNat = 49; omega))
            have e3 : ¬ c.toNat = 49 := by omega
            clear hc49
            go_wp2
            go_round
            case rel => exact ⟨_, _, _, i + 1, by omega, hS, rfl, rfl, rfl, by go_num⟩
            case measure => simp [intOf]; omega
        · go_wp2
          go_ret
          exact ⟨_, hS.out, rfl, rfl, HC.out _⟩
      · have k1 : ¬ (i : Int) < (l.length : Int) := by omega
        go_wp2
        go_ret
        exact ⟨_, hS.out, rfl, rfl, HC.out _⟩

end Go.Proofs.YtjobgobeiiakgaaDoor

/- Numbers read back from their bits: the program's guess and text together. -/
namespace Go.Proofs.YtjobgobeiiakgaaDoor
set_option linter.unusedSimpArgs false
set_option linter.unusedVariables false
open Go.RowKit
theorem I64_nat {n : Nat} (h : n ≤ 9223372036854775807) : I64 (n : Int) := by unfold I64; omega
theorem guess_any (kind k : Int) (h1 : 0 ≤ kind) (h2 : kind ≤ 4) (k1 : 0 ≤ k) (k2 : k ≤ 20) (r : List UInt8) (w : World) (hl : r.length ≤ 512) (hb : ∀ c ∈ r, c = 48 ∨ c = 49) :
    Calls Tryd.prog 39 #[.int .i64 kind, .int .i64 k, .string ⟨r.toArray⟩] w fun e w' => ∃ v : Int, I64 v ∧ e = .returned (.int .i64 v) ∧ Qu w w' ∧ Cand kind k r v := by
  rcases (by omega : kind = 0 ∨ kind = 1 ∨ kind = 2 ∨ kind = 3 ∨ kind = 4) with rfl | rfl | rfl | rfl | rfl
  · refine (guess0_any k r w hl).mono ?_
    rintro e w' ⟨rfl, rfl⟩
    have := lead_le 49 r
    exact ⟨_, by unfold I64; omega, rfl, Qu.refl _, cand0_i k r⟩
  · refine (guess1_any k r w hl hb).mono ?_
    rintro e w' ⟨rfl, rfl⟩
    have := numI_lt ((r.drop (lead 48 r)).take (lead 48 r + 1))
    exact ⟨_, I64_nat (by omega), rfl, Qu.refl _, cand1_i k r⟩
  · refine (guess2_any k r w hl hb).mono ?_
    rintro e w' ⟨rfl, rfl⟩
    have : gd2_i r ≤ 1048576 := by
      unfold gd2_i
      split
      · omega
      · exact Nat.le_of_lt (numI_lt _)
    exact ⟨_, I64_nat (by omega), rfl, Qu.refl _, cand2_i k r⟩
  · refine (guess3_any k r w hl).mono ?_
    rintro e w' ⟨v, hv, rfl, rfl, hc⟩
    exact ⟨v, hv, rfl, Qu.refl _, hc⟩
  · obtain ⟨q, rfl⟩ : ∃ q : Nat, k = (q : Int) := ⟨k.toNat, by omega⟩
    refine (guess4_any q (by omega) r w hl hb).mono ?_
    rintro e w' ⟨rfl, hq⟩
    have a1 := lead_le 49 r
    have a2 := numI_lt ((r.drop (min r.length (lead 49 r + 1))).take q)
    have hp1 : 2 ^ q ≤ 2 ^ 20 := Nat.pow_le_pow_right (by omega) (by omega)
    have hp2 : lead 49 r * 2 ^ q ≤ 512 * 2 ^ 20 := Nat.mul_le_mul (by omega) hp1
    exact ⟨_, I64_nat (by omega), rfl, hq, cand4_i q r⟩

set_option maxHeartbeats 1000000 in
theorem numberText_any (kind k n : Int) (h1 : 0 ≤ kind) (h2 : kind ≤ 4) (hk : I64 k) (hn : I64 n) (w : World) :
    Calls Tryd.prog 40 #[.int .i64 kind, .int .i64 k, .int .i64 n] w fun e w' => e = .returned (.tuple #[.string (numT kind k n).1, .bool (numT kind k n).2]) ∧ Below w.heap.size w w' := by
  obtain ⟨o, ho⟩ : ∃ o, o = numT kind k n := ⟨_, rfl⟩
  rw [← ho]
  rcases (by omega : kind = 0 ∨ kind = 1 ∨ kind = 2 ∨ kind = 3 ∨ kind = 4) with rfl | rfl | rfl | rfl | rfl
  · have e : o = out_UnaryOf n := ho
    have HU := Lib.hid (fun W => impl_UnaryOf W n hn)
    rw [← e] at HU
    clear e ho
    go_enter Tryd.func40, Tryd.ntmps40
    go_wp2_with (go_at_call 11; refine (HU.out _).mono ?_; rintro e w1 ⟨rfl, hb⟩)
    go_ret2
    exact ⟨rfl, hb⟩
  · have e : o = out_GammaOf n := ho
    have HU := Lib.hid (fun W => impl_GammaOf W n hn)
    rw [← e] at HU
    clear e ho
    go_enter Tryd.func40, Tryd.ntmps40
    go_wp2_with (go_at_call 12; refine (HU.out _).mono ?_; rintro e w1 ⟨rfl, hb⟩)
    go_ret2
    exact ⟨rfl, hb⟩
  · have e : o = out_DeltaOf n := ho
    have HU := Lib.hid (fun W => impl_DeltaOf W n hn)
    rw [← e] at HU
    clear e ho
    go_enter Tryd.func40, Tryd.ntmps40
    go_wp2_with (go_at_call 13; refine (HU.out _).mono ?_; rintro e w1 ⟨rfl, hb⟩)
    go_ret2
    exact ⟨rfl, hb⟩
  · have e : o = out_FibonacciOf n := ho
    have HU := Lib.hid (fun W => impl_FibonacciOf W n hn)
    rw [← e] at HU
    clear e ho
    go_enter Tryd.func40, Tryd.ntmps40
    go_wp2_with (go_at_call 14; refine (HU.out _).mono ?_; rintro e w1 ⟨rfl, hb⟩)
    go_ret2
    exact ⟨rfl, hb⟩
  · have e : o = out_RiceOf n k := ho
    have HU := Lib.hid (fun W => impl_RiceOf W n hn k hk)
    rw [← e] at HU
    clear e ho
    go_enter Tryd.func40, Tryd.ntmps40
    go_wp2_with (go_at_call 15; refine (HU.out _).mono ?_; rintro e w1 ⟨rfl, hb⟩)
    go_ret2
    exact ⟨rfl, hb⟩

end Go.Proofs.YtjobgobeiiakgaaDoor

/- Numbers read back from their bits: the program's contract. -/
namespace Go.Proofs.YtjobgobeiiakgaaDoor
set_option linter.unusedSimpArgs false
set_option linter.unusedVariables false
open Go.RowKit
theorem bits_mem {l : List UInt8} (h : bitsOk l = true) : ∀ c ∈ l, c = 48 ∨ c = 49 := by
  unfold bitsOk at h
  simp only [Bool.and_eq_true] at h
  intro c hc
  have := List.all_eq_true.1 h.2 c hc
  simpa [isBit] using this
theorem outNB_no1 {kind k : Int} {s : ByteArray} (h : inB kind 0 4 = false) : out_NumbersOfBits kind k s = ([], false) := by unfold out_NumbersOfBits; rw [h]; rfl
theorem outNB_no2 {kind k : Int} {s : ByteArray} (h : inB k 0 20 = false) : out_NumbersOfBits kind k s = ([], false) := by unfold out_NumbersOfBits; rw [h]; simp
theorem outNB_no3 {kind k : Int} {s : ByteArray} (h : bitsOk s.data.toList = false) : out_NumbersOfBits kind k s = ([], false) := by unfold out_NumbersOfBits; rw [h]; simp
theorem outNB_yes {kind k : Int} {s : ByteArray} (h1 : inB kind 0 4 = true) (h2 : inB k 0 20 = true) (h3 : bitsOk s.data.toList = true) : out_NumbersOfBits kind k s = ncR kind k s.data.toList := by unfold out_NumbersOfBits; rw [h1, h2, h3]; rfl
theorem len_NumbersOfBits (kind : Int) (_ : I64 kind) (k : Int) (_ : I64 k) (s : ByteArray) (_ : s.size ≤ 9223372036854775807) (hl : s.size ≤ 1048576) : (out_NumbersOfBits kind k s).1.length ≤ 1048576 := by
  unfold out_NumbersOfBits
  split
  · have := ncR_len kind k s.data.toList
    have h2 : s.data.toList.length = s.data.size := by simp
    have h3 : s.size = s.data.size := rfl
    omega
  · exact Nat.zero_le _
def strLen (v : Value) : Nat := match v with | .string s => s.size | _ => 0

set_option maxRecDepth 100000 in
set_option maxHeartbeats 4000000 in
theorem implNumbers_yes (w : World) (kind k : Int) (h1 : inB kind 0 4 = true) (h2 : inB k 0 20 = true) (l : List UInt8) (hbk : bitsOk l = true) :
    Calls Tryd.prog 16 #[.int .i64 kind, .int .i64 k, .string ⟨l.toArray⟩] w (RetSl w 2 (ncR kind k l).1.length ((ncR kind k l).1.map (Value.int .i64)) (fun v => .tuple #[v, .bool (ncR kind k l).2])) := by
  obtain ⟨i0, hi0, hz00, hz01, hz02⟩ := info_parts info_Int64S
  have hl5 := bits_len hbk
  have hmem := bits_mem hbk
  obtain ⟨a1, a2⟩ := inB_true h1
  obtain ⟨a3, a4⟩ := inB_true h2
  have hI : I64 kind := by unfold I64; omega
  have hI2 : I64 k := by unfold I64; omega
  obtain ⟨o, ho⟩ : ∃ o, o = ncR kind k l := ⟨_, rfl⟩
  rw [← ho]
  have HO := Lib.hid ho
  have HI1 := Lib.hid h1
  have HI2 := Lib.hid h2
  have HK := Lib.hid hbk
  have HG := Lib.hid (fun p W => guess_any kind k (by omega) (by omega) (by omega) (by omega) (l.drop p) W (by rw [List.length_drop]; omega) (fun c hc => hmem c (List.mem_of_mem_drop hc)))
  have HT := Lib.hid (fun n (hn : I64 n) W => numberText_any kind k n (by omega) (by omega) hI2 hn W)
  clear ho h1 h2 hbk a1 a2 a3 a4 hmem
  go_enter Tryd.func16, Tryd.ntmps16
  go_wp2_with fail
  refine (within_any _ _ _ _).mono ?_
  rw [HI1.out]
  rintro e w' ⟨rfl, rfl⟩
  go_wp2_with fail
  refine (within_any _ _ _ _).mono ?_
  rw [HI2.out]
  rintro e w' ⟨rfl, rfl⟩
  go_wp2_with (go_at_call 38; refine (isBits_any l _ (by omega)).mono ?_; rw [HK.out]; rintro e w2 ⟨rfl, hb0⟩)
  have c3 : (w2.alloc (.cells #[] 2)).ownsRow w.heap.size 2 1 (.slice (some ⟨w2.heap.size, 0, none⟩) 0 0) 0 [] := ownsRow_base (World.ownsRow_made w2 #[] 0 (Nat.le_refl _) (Nat.zero_le _) rfl) (by have := hb0.size; omega)
  have c4 : Below w.heap.size w (w2.alloc (.cells #[] 2)) := Below.alloc hb0 hb0.size _
  go_loopw [2, 8] (fun t' v' wr => ∃ n : Nat, t' = .string ⟨(l.drop (ncN kind k l n).1).toArray⟩ ∧ Hid (∀ j, j < n → ∃ v, stp kind k (l.drop (ncN kind k l j).1) = some v) ∧
      wr.ownsRow w.heap.size 2 1 v' (ncN kind k l n).2.length ((ncN kind k l n).2.map (Value.int .i64)) ∧ Below w.heap.size w wr) (fun t' _ _ => strLen t')
  case atStart => exact ⟨0, rfl, Lib.hid (fun j hj => by omega), c3, c4⟩
  case round =>
    clear c3 c4 hb0
    obtain ⟨n, rfl, hs, hL, hbw⟩ := hrel
    have hple := ncN_le (kind := kind) (k := k) (l := l) n
    have hge := ncN_ge n hs.out
    have hlen := ncN_len (kind := kind) (k := k) (l := l) n
    have hdl : (l.drop (ncN kind k l n).1).length = l.length - (ncN kind k l n).1 := List.length_drop
    have HEND := Lib.hid (ncR_end hs.out)
    have HBAD := Lib.hid (ncR_bad hs.out)
    have HSOME := Lib.hid (fun v => ncN_some (kind := kind) (k := k) (l := l) (n := n) (v := v))
    have HG1 := Lib.hid (fun W => HG.out (ncN kind k l n).1 W)
    have hlen5 : (ncN kind k l n).2.length ≤ 512 := by omega
    obtain ⟨r, hr⟩ : ∃ r, r = l.drop (ncN kind k l n).1 := ⟨_, rfl⟩
    rw [← hr] at hdl HBAD HSOME HG1 ⊢
    have HR := Lib.hid hr
    by_cases he : r = []
    · have hre : r.isEmpty = true := by rw [he]; rfl
      have hp : (ncN kind k l n).1 = l.length := by rw [he, List.length_nil] at hdl; omega
      have HRES := Lib.hid (HO.out.trans (HEND.out hp))
      clear hp hdl hr HEND HBAD HSOME HO hple hge hlen he
      go_wp2
      go_ret2
      rw [HRES.out]
      dsimp only
      obtain ⟨a', c', rfl⟩ := ownsRow_shape hL
      exact ⟨a', c', rfl, hL, hbw⟩
    · have hre := isE_false he
      have hpl : (ncN kind k l n).1 < l.length := by
        rcases Nat.lt_or_ge (ncN kind k l n).1 l.length with h | h
        · exact h
        · exact absurd (List.eq_nil_of_length_eq_zero (by rw [hdl]; omega)) he
      clear hr hge hlen he
      go_wp2_with fail
      refine (HG1.out _).mono ?_
      rintro e w1 ⟨v, hv, rfl, hq, hc⟩
      go_wp2_with fail
      refine (HT.out v hv _).mono ?_
      have hbw1 : Below w.heap.size w w1 := hbw.trans (hq.below _)
      have hL1 := ownsRow_below hL (hq.below _)
      clear hL hbw hq
      cases hok : (numT kind k v).2
      · have hf : stp kind k r = none := stp_none hc (fun h => by rw [hok] at h; exact absurd h.1 Bool.false_ne_true)
        have HRES := Lib.hid (HO.out.trans (HBAD.out hpl hf))
        clear hf hok hc
        rintro e w3 ⟨rfl, hb3⟩
        go_wp2
        go_ret2
        rw [HRES.out]
        exact ⟨none, 0, rfl, World.ownsRow_nil _ _ _ _, hbw1.trans (hb3.mono hbw1.size)⟩
      · have htx : (numT kind k v).1 = ⟨(txN kind k v).toArray⟩ := numT_tx kind k v
        have HHP : Hid (∀ W : World, Calls Tryd.prog 41 #[.string ⟨r.toArray⟩, .string ⟨(txN kind k v).toArray⟩] W fun e w' => e = .returned (.bool ((txN kind k v).isPrefixOf r)) ∧ W = w') := by
          show ∀ W : World, _
          exact fun W => (Tryd.strings_HasPrefix ⟨r.toArray⟩ ⟨(txN kind k v).toArray⟩ W).mono fun _ _ h => ⟨h.1, h.2.symm⟩
        have hup := txN_pos (kind := kind) (k := k) (v := v) hok
        cases hpr : (txN kind k v).isPrefixOf r
        · have hf : stp kind k r = none := stp_none hc (fun h => by have h2 := List.isPrefixOf_iff_prefix.2 h.2; rw [hpr] at h2; exact absurd h2 (by decide))
          have HRES := Lib.hid (HO.out.trans (HBAD.out hpl hf))
          rw [hpr] at HHP
          rw [htx]
          clear hf hok hc hpr htx HEND HBAD HSOME HO
          generalize txN kind k v = u at *
          rintro e w3 ⟨rfl, hb3⟩
          go_wp2_with (go_at_call 41; refine (HHP.out _).mono ?_; rintro e w4 ⟨rfl, rfl⟩)
          go_ret2
          rw [HRES.out]
          exact ⟨none, 0, rfl, World.ownsRow_nil _ _ _ _, hbw1.trans (hb3.mono hbw1.size)⟩
        · have hf : stp kind k r = some v := stp_some hc hok (List.isPrefixOf_iff_prefix.1 hpr)
          have hk3 := List.IsPrefix.length_le (List.isPrefixOf_iff_prefix.1 hpr)
          have HST := Lib.hid (HSOME.out v hf)
          have HS2 : Hid (∀ j, j < n + 1 → ∃ v, stp kind k (l.drop (ncN kind k l j).1) = some v) := by
            show ∀ j, _
            intro j hj
            by_cases hjn : j = n
            · rw [hjn, ← HR.out]; exact ⟨v, hf⟩
            · exact hs.out j (by omega)
          have HDR : Hid (r.drop (txN kind k v).length = l.drop ((ncN kind k l n).1 + (txN kind k v).length)) := by
            show _ = _
            rw [HR.out, List.drop_drop]
          rw [hpr] at HHP
          rw [htx]
          clear hf hok hc hpr htx HEND HBAD HSOME HO
          generalize txN kind k v = u at *
          have hcut := run_cut_d r u.length hk3
          obtain ⟨r2, hr2⟩ : ∃ r2, r2 = r.drop u.length := ⟨_, rfl⟩
          rw [← hr2] at hcut HDR
          have hr2l : r2.length < r.length := by rw [hr2, List.length_drop]; omega
          clear hr2
          rintro e w3 ⟨rfl, hb3⟩
          have hbw := hbw1.trans (hb3.mono hbw1.size)
          have hL := ownsRow_below hL1 hb3
          clear hL1 hbw1
          go_wp2_with (first
            | (go_at_call 41; refine (HHP.out _).mono ?_; rintro e w4 ⟨rfl, rfl⟩)
            | (at_builtin; refine wpList_append_own _ rfl _ _ 32 rfl w.heap.size 2 i0 (.int .i64 0) 1 8 Tryd.underlying32 hi0 hz00 hz01 hz02 rfl (by decide) u8 _ _ rfl (hL.alloc _) ⟨(World.heap w3).size, 0, none⟩ 1 1 [.int .i64 v] rfl rfl (cell_one_new _ _ _) (one_oneCell rfl) (by unfold maxLen; omega) (by omega) (by simp only [World.size_alloc]; have := hbw.size; omega) ?_; intro v1 w5 hL1 hgx _; have hb1 := app_below hbw (by have := hbw.size; omega) _ hgx hL (by omega)))
          go_roundw
          case rel =>
            refine ⟨n + 1, ?_, HS2, ?_, hb1⟩
            · rw [HST.out, ← HDR.out]
            · rw [HST.out]
              dsimp only
              rw [List.length_append, List.map_append]
              exact hL1
          case measure => simp [strLen]; exact hr2l

end Go.Proofs.YtjobgobeiiakgaaDoor
