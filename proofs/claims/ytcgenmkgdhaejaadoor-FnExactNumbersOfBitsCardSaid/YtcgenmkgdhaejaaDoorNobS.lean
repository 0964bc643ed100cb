/- Numbers read back from their bits: the reference's guess and text together. -/
import Derived.Test.YtcgenmkgdhaejaaDoorNob9
namespace Go.Proofs.YtcgenmkgdhaejaaDoor
set_option linter.unusedSimpArgs false
set_option linter.unusedVariables false
open Go.RowKit
theorem l04Guess_any (kind k : Int) (h1 : 0 ≤ kind) (h2 : kind ≤ 4) (k1 : 0 ≤ k) (k2 : k ≤ 20) (l : List UInt8) (p : Nat) (w : World) (hl : l.length ≤ 512) (hp : p ≤ l.length) :
    Calls Tryd.prog 25 #[.int .i64 kind, .int .i64 k, .string ⟨l.toArray⟩, .int .i64 (p : Int)] w fun e w' => ∃ v : Int, e = .returned (.int .i64 v) ∧ w = w' ∧ Cand kind k (l.drop p) v := by
  rcases (by omega : kind = 0 ∨ kind = 1 ∨ kind = 2 ∨ kind = 3 ∨ kind = 4) with rfl | rfl | rfl | rfl | rfl
  · refine (guessS0_any k l p w hl hp).mono ?_
    rintro e w' ⟨rfl, rfl⟩
    exact ⟨_, rfl, rfl, cand0_s k _⟩
  · refine (guessS1_any k l p w hl hp).mono ?_
    rintro e w' ⟨rfl, rfl⟩
    exact ⟨_, rfl, rfl, cand1_s k _⟩
  · refine (guessS2_any k l p w hl hp).mono ?_
    rintro e w' ⟨rfl, rfl⟩
    exact ⟨_, rfl, rfl, cand2_s k _⟩
  · exact guessS3_any k l p w hl hp
  · obtain ⟨q, rfl⟩ : ∃ q : Nat, k = (q : Int) := ⟨k.toNat, by omega⟩
    refine (guessS4_any q (by omega) l p w hl hp).mono ?_
    rintro e w' ⟨rfl, rfl⟩
    exact ⟨_, rfl, rfl, cand4_s q _⟩
set_option maxRecDepth 100000 in
set_option maxHeartbeats 400000 in
theorem l04NumK_rice (w : World) (x k : Nat) (hx : x < 1000000) (hk : k ≤ 20) :
    Calls Tryd.prog 43 #[.int .i64 4, .int .i64 k, .int .i64 ((x : Int) + 1)] w fun e w' => e = .returned (.tuple #[.string (if x / 2 ^ k < 512 then ⟨(riceT x k).toArray⟩ else ⟨#[]⟩), .bool (if x / 2 ^ k < 512 then decide ((riceT x k).length ≤ 512) else false)]) ∧ w = w' := by
  have hdiv : x / 2 ^ k ≤ x := Nat.div_le_self ..
  have HR : Hid (riceT x k = (List.replicate (x / 2 ^ k) 49 ++ [48]) ++ digs x k) := rfl
  generalize hd : x / 2 ^ k = d at *
  have hd' : (x : Int) / 2 ^ k = (d : Int) := by rw [← hd]; simp
  clear hd
  by_cases hq : d < 512
  · rw [if_pos hq, if_pos hq]
    have hl := digs_length x k
    have HDg := Lib.hid (fun w => l04Digits_any x k w (by omega) (by omega))
    have hr : (List.replicate d (49 : UInt8)).length ≤ 512 := by simp; omega
    have HS := Lib.hid (fun w => l04Same_any 49 d w (by omega))
    generalize digs x k = l at *
    generalize List.replicate d (49 : UInt8) = z at *
    generalize riceT x k = r at *
    go_enter Tryd.func43, Tryd.ntmps43
    go_wp2_with (first | (go_at_call 60; refine (HS.out _).mono ?_; rintro e w1 ⟨rfl, rfl⟩) | (go_at_call 63; refine (HDg.out _).mono ?_; rintro e w1 ⟨rfl, rfl⟩))
    go_ret2
    have HR1 := HR.out
    rw [HR1]
    exact ⟨ret_tup2 (by simp [ByteArray.mk_append_mk]) (by rw [decide_eq_decide]; simp only [List.length_append, List.length_cons, List.length_nil]; omega), rfl⟩
  · rw [if_neg hq, if_neg hq]
    go_enter Tryd.func43, Tryd.ntmps43
    go_wp2
    go_ret2
    exact ⟨rfl, rfl⟩

theorem numbered4 (k n : Int) (w : World) : Calls Tryd.prog 26 #[.int .i64 4, .int .i64 k, .int .i64 n] w fun e w' => e = .returned (.tuple #[.string (out_RiceOf n k).1, .bool (out_RiceOf n k).2]) ∧ w = w' := by
  by_cases h1 : inB n 1 1000000 = true
  · by_cases h2 : inB k 0 20 = true
    · obtain ⟨a, b⟩ := inB_true h1
      obtain ⟨c, d⟩ := inB_true h2
      obtain ⟨x, rfl⟩ : ∃ x : Nat, n = (x : Int) + 1 := ⟨(n - 1).toNat, by omega⟩
      obtain ⟨q, rfl⟩ : ∃ q : Nat, k = (q : Int) := ⟨k.toNat, by omega⟩
      have h := l04Numbered_ok 4 q _ _ _ w h1 h2 (fun w => l04NumK_rice w x q (by omega) (by omega))
      rw [show out_RiceOf ((x : Int) + 1) q = riceO x q by
        rw [out_RiceOf, h1, h2]; simp only [Bool.and_self, if_true]; congr 1]
      unfold riceO
      by_cases h5 : x / 2 ^ q < 512
      · rw [if_pos h5]
        rw [if_pos h5, if_pos h5] at h
        by_cases h6 : (riceT x q).length ≤ 512
        · rw [if_pos h6, show decide ((riceT x q).length ≤ 512) = true from decide_eq_true h6]
          rw [show decide ((riceT x q).length ≤ 512) = true from decide_eq_true h6] at h
          exact h
        · rw [if_neg h6, show decide ((riceT x q).length ≤ 512) = false from decide_eq_false h6]
          rw [show decide ((riceT x q).length ≤ 512) = false from decide_eq_false h6] at h
          exact h
      · rw [if_neg h5]
        rw [if_neg h5, if_neg h5] at h
        exact h
    · have h2' : inB k 0 20 = false := by simpa using h2
      rw [show out_RiceOf n k = (⟨#[]⟩, false) by simp [out_RiceOf, h2']]
      exact l04Numbered_nok 4 k n w h1 h2'
  · have h1' : inB n 1 1000000 = false := by simpa using h1
    rw [show out_RiceOf n k = (⟨#[]⟩, false) by simp [out_RiceOf, h1']]
    exact l04Numbered_no 4 k n w h1'

set_option maxHeartbeats 400000 in
theorem numbered3 (k n : Int) (hk : inB k 0 20 = true) (w : World) :
    Calls Tryd.prog 26 #[.int .i64 3, .int .i64 k, .int .i64 n] w fun e w' => e = .returned (.tuple #[.string (outNum n fibT).1, .bool (outNum n fibT).2]) ∧ Below w.heap.size w w' := by
  by_cases ht : inB n 1 1000000 = true
  · obtain ⟨h1, h2⟩ := inB_true ht
    obtain ⟨m, rfl⟩ : ∃ m : Nat, n = (m : Int) := ⟨n.toNat, by omega⟩
    rw [outNum_yes _ ht]
    have HN := Lib.hid ht
    have HK := Lib.hid hk
    have HH := Lib.hid (fun w => l04NumK_fib k w m (by omega) (by omega))
    clear ht hk
    go_enter Tryd.func26, Tryd.ntmps26
    go_wp2_with fail
    refine (l00In_any _ _ _ _).mono ?_
    rw [HN.out]
    rintro e w' ⟨rfl, rfl⟩
    go_wp2_with fail
    refine (l00In_any _ _ _ _).mono ?_
    rw [HK.out]
    rintro e w' ⟨rfl, rfl⟩
    go_wp2_with (go_at_call 43; refine (HH.out _).mono ?_; rintro e w1 ⟨rfl, hb⟩)
    go_ret2
    exact ⟨rfl, hb⟩
  · have ht' : inB n 1 1000000 = false := by simpa using ht
    rw [outNum_no _ ht']
    exact (l04Numbered_no 3 k n w ht').mono fun e w' h => ⟨h.1, by rw [← h.2]; exact Below.refl _ _⟩
theorem l04Numbered_any (kind k n : Int) (h1 : 0 ≤ kind) (h2 : kind ≤ 4) (hk : inB k 0 20 = true) (w : World) :
    Calls Tryd.prog 26 #[.int .i64 kind, .int .i64 k, .int .i64 n] w fun e w' => e = .returned (.tuple #[.string (numT kind k n).1, .bool (numT kind k n).2]) ∧ Below w.heap.size w w' := by
  rcases (by omega : kind = 0 ∨ kind = 1 ∨ kind = 2 ∨ kind = 3 ∨ kind = 4) with rfl | rfl | rfl | rfl | rfl
  · exact (numbered0 k n hk w).mono fun e w' h => ⟨h.1, by rw [← h.2]; exact Below.refl _ _⟩
  · exact (numberedK 1 k gammaT n hk (fun w m a b => l04NumK_gamma k w m a b) w).mono fun e w' h => ⟨h.1, by rw [← h.2]; exact Below.refl _ _⟩
  · exact (numberedK 2 k deltaT n hk (fun w m a b => l04NumK_delta k w m a b) w).mono fun e w' h => ⟨h.1, by rw [← h.2]; exact Below.refl _ _⟩
  · exact numbered3 k n hk w
  · exact (numbered4 k n w).mono fun e w' h => ⟨h.1, by rw [← h.2]; exact Below.refl _ _⟩

end Go.Proofs.YtcgenmkgdhaejaaDoor
