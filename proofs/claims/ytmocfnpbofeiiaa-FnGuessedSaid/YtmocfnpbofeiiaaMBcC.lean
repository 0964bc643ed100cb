/- Rows of chances drawn from bytes (B10Chances). -/
import Derived.Test.YtmocfnpbofeiiaaMSrc
import Derived.Test.YtmocfnpbofeiiaaMGiv
namespace Go.Proofs.Ytmocfnpbofeiiaa
set_option linter.unusedSimpArgs false
set_option linter.unusedVariables false
open Go.RowKit
open Ieee
theorem grown_then {a b c : World} {row : Option Nat} (h : a.grownBy b row) (k : Below a.heap.size b c) : a.grownBy c row :=
  ⟨k.os.trans h.os, k.tape.trans h.tape, k.output.trans h.output, Nat.le_trans h.size k.size, fun i hi hne => (k.block i hi).trans (h.block i hi hne)⟩
theorem Src.below {w0 W W' : World} {b m : Nat} {sv : Value} (h : Src w0 b sv m W) (hb : Below (b + 1) W W') : Src w0 b sv m W' := by
  obtain ⟨h1, h2, h3, k, s, h4, h5, h6, h7, h8, h9⟩ := h
  have hs := hb.size
  exact ⟨h1, by omega, h3.trans (hb.mono (by omega)), k, s, h4, (hb.cell (p := ⟨b, 0, none⟩) (Nat.lt_succ_self b)).trans h5, (hb.cell (p := ⟨b, 1, none⟩) (Nat.lt_succ_self b)).trans h6, (hb.cell (p := ⟨b, 2, none⟩) (Nat.lt_succ_self b)).trans h7, (hb.frozen (Nat.lt_succ_self b)).trans h8, (hb.frozen (Nat.lt_succ_self b)).trans h9⟩
/-- A whole number as a single word. -/
def fw (k : Nat) : Nat := floatOfInt .f32 (k : Int)
def fwV (ks : List Nat) : List Value := (ks.map fw).map (Value.float .f32)
theorem fwV_snoc (ks : List Nat) (k : Nat) : fwV (ks ++ [k]) = fwV ks ++ [.float .f32 (fw k)] := by simp [fwV]
theorem fwV_length (ks : List Nat) : (fwV ks).length = ks.length := by simp [fwV]
theorem fw_add : ∀ a : Nat, a < 60 → ∀ b : Nat, b < 7 → (floatBits .add .f32 (fw a) (fw b)).isSome = true ∧ fA .add .f32 (fw a) (fw b) = fw (a + b) := by decide +kernel
/-- The row of quotients. -/
def rowK (ks : List Nat) : List Nat := ks.map fun k => fA .quo .f32 (fw k) (fw ks.sum)
theorem fw_quo : ∀ s : Nat, s < 60 → 1 ≤ s → ∀ k : Nat, k < 7 → (floatBits .quo .f32 (fw k) (fw s)).isSome = true := by decide +kernel
/-- The list while it is divided: the first i are done. -/
def midV (ks : List Nat) (i : Nat) : List Value := ((rowK ks).take i ++ (ks.map fw).drop i).map (Value.float .f32)
theorem midV_length (ks : List Nat) {i : Nat} (hi : i ≤ ks.length) : (midV ks i).length = ks.length := by
  simp [midV, rowK]; omega
theorem midV_zero (ks : List Nat) : midV ks 0 = fwV ks := by simp [midV, fwV]
theorem midV_end (ks : List Nat) : midV ks ks.length = (rowK ks).map (Value.float .f32) := by
  unfold midV
  rw [List.take_of_length_le (by simp [rowK]), List.drop_of_length_le (by simp), List.append_nil]
theorem midV_at (ks : List Nat) {i : Nat} (hi : i < ks.length) : (midV ks i)[i]? = some (.float .f32 (fw (ks[i]?.getD 0))) := by
  have hl : ((rowK ks).take i).length = i := by simp [rowK]; omega
  simp only [midV, List.getElem?_map]
  rw [List.getElem?_append_right (by omega), hl, Nat.sub_self, List.getElem?_drop, Nat.add_zero, List.getElem?_map, List.getElem?_eq_getElem hi]
  rfl
theorem midV_set (ks : List Nat) {i : Nat} (hi : i < ks.length) : (midV ks i).set i (.float .f32 (fA .quo .f32 (fw (ks[i]?.getD 0)) (fw ks.sum))) = midV ks (i + 1) := by
  have hl : ((rowK ks).take i).length = i := by simp [rowK]; omega
  simp only [midV]
  rw [← List.map_set]
  congr 1
  rw [List.set_append, if_neg (by omega), hl, Nat.sub_self]
  have hd : (ks.map fw).drop i = fw (ks[i]?.getD 0) :: (ks.map fw).drop (i + 1) := by
    rw [List.drop_eq_getElem_cons (by simpa using hi), List.getElem_map, List.getElem?_eq_getElem hi]
    rfl
  rw [hd, List.set_cons_zero]
  have ht : (rowK ks).take (i + 1) = (rowK ks).take i ++ [fA .quo .f32 (fw (ks[i]?.getD 0)) (fw ks.sum)] := by
    rw [List.take_succ_eq_append_getElem (by simpa [rowK] using hi)]
    congr 1
    simp only [rowK, List.getElem_map]
    rw [List.getElem?_eq_getElem hi]
    rfl
  rw [ht, List.append_assoc]
  rfl

set_option maxRecDepth 4000 in
set_option maxHeartbeats 4000000 in
theorem b10Chances_any (w0 W : World) (b m n : Nat) (sv : Value) (l : List UInt8) (hl : l.length ≤ 1048576) (hm : m ≤ 1000) (hn1 : 1 ≤ n) (hn : n ≤ 8) (hv : SlR w0 sv (byv l)) (h : Src w0 b sv m W) :
    Calls Try.prog 70 #[.pointer (some ⟨b, 0, none⟩), .int .i64 (n : Int)] W fun e w' => (∃ (ks : List Nat) (a : Option Addr) (c : Nat), ks.length = n ∧ (∀ k ∈ ks, 1 ≤ k ∧ k ≤ 6) ∧ e = .returned (.slice a n c) ∧ w'.ownsRow W.heap.size 32 1 (.slice a n c) n ((rowK ks).map (Value.float .f32))) ∧ Src w0 b sv (m + n) w' ∧ W.grownBy w' (some b) := by
  obtain ⟨i0, hi0, hz00, hz01, hz02⟩ := info_parts info_Float32S
  have HP : Hid (∀ (W' : World) (j : Nat), j ≤ 2000 → Src w0 b sv j W' → Calls Try.prog 108 #[.pointer (some ⟨b, 0, none⟩), .int .i64 ((6 : Nat) : Int)] W' fun e w' => (∃ x : Nat, x < 6 ∧ e = .returned (.int .i64 (x : Int))) ∧ Src w0 b sv (j + 1) w' ∧ W'.grownBy w' (some b)) := Lib.hid fun W' j hj hs => pick_any w0 W' b j 6 sv l hl (by omega) (by omega) (by omega) hv hs
  have hbW : b < W.heap.size := h.2.1
  clear hv
  have hown0 : (W.alloc (.cells #[] 32)).ownsRow W.heap.size 32 1 (.slice (some ⟨W.heap.size, 0, none⟩) 0 0) 0 [] := World.ownsRow_made W #[] 0 (Nat.le_refl _) (Nat.zero_le _) rfl
  have hb0 : Below W.heap.size W (W.alloc (.cells #[] 32)) := by go_grown
  have hs0 := h.below (hb0.mono (by omega))
  have hg0 : W.grownBy (W.alloc (.cells #[] 32)) (some b) := grown_then (World.grownBy.refl _ _) hb0
  clear h hb0
  have HSN : Hid (∀ ks k, fwV (ks ++ [k]) = fwV ks ++ [.float .f32 (fw k)]) := fwV_snoc
  have HAD : Hid (∀ a : Nat, a < 60 → ∀ b : Nat, b < 7 → (floatBits .add .f32 (fw a) (fw b)).isSome = true ∧ fA .add .f32 (fw a) (fw b) = fw (a + b)) := fw_add
  have HQU : Hid (∀ s : Nat, s < 60 → 1 ≤ s → ∀ k : Nat, k < 7 → (floatBits .quo .f32 (fw k) (fw s)).isSome = true) := fw_quo
  have HMA : Hid (∀ (ks : List Nat) (i : Nat), i < ks.length → (midV ks i)[i]? = some (.float .f32 (fw (ks[i]?.getD 0)))) := fun ks i hi => midV_at ks hi
  have HMS : Hid (∀ (ks : List Nat) (i : Nat), i < ks.length → (midV ks i).set i (.float .f32 (fA .quo .f32 (fw (ks[i]?.getD 0)) (fw ks.sum))) = midV ks (i + 1)) := fun ks i hi => midV_set ks hi
  have HFO : Hid (∀ x : Nat, floatOfInt .f32 (1 + (x : Int)) = fw (1 + x)) := fun x => congrArg (floatOfInt .f32) (show (1 + (x : Int)) = ((1 + x : Nat) : Int) by omega)
  have HF0 : Hid ((0 : Nat) = fw 0) := Lib.hid (by decide +kernel)
  have HM0 : Hid (∀ ks, midV ks 0 = fwV ks) := midV_zero
  have HME : Hid (∀ ks : List Nat, ks.length = n → midV ks n = (rowK ks).map (Value.float .f32)) := fun ks h => by rw [← h]; exact midV_end ks
  generalize fw = F at *
  go_enter Try.func70, Try.ntmps70
  go_wp2
  go_loopw [5, 6, 7] (fun v s q wr => ∃ (ks : List Nat), ks.length ≤ n ∧ s = .float .f32 (F ks.sum) ∧ q = .int .i64 (ks.length : Int) ∧ Hid (∀ k ∈ ks, 1 ≤ k ∧ k ≤ 6) ∧ Hid (ks.sum ≤ 6 * ks.length) ∧ wr.ownsRow W.heap.size 32 1 v ks.length (fwV ks) ∧ Src w0 b sv (m + ks.length) wr ∧ W.grownBy wr (some b)) (fun _ _ q _ => n - (intOf q).toNat)
  case atStart => exact ⟨[], by simp, congrArg _ HF0.out, rfl, Lib.hid (fun x hx => by cases hx), Lib.hid (by simp), hown0, hs0, hg0⟩
  case round =>
    clear hown0 hs0 hg0
    obtain ⟨ks, hk, rfl, rfl, hks, hsum, hown, hs, hg⟩ := hrel
    have hgs := hg.size
    by_cases hlt : ks.length < n
    · have hsum' := hsum.out
      go_wp2_with (first
        | (go_at_call 108; refine (HP.out wr (m + ks.length) (by omega) hs).mono ?_; rintro e w1 ⟨⟨x, hx, rfl⟩, hs1, hg1⟩; have hown1 := own_apart (u := .slice (some ⟨b, 0, none⟩) 0 0) hown hg1 (fun k hk => by simp [Value.ownBlock] at hk; omega); have hx2 := HFO.out x; have hG1 := grownBy_trans hg hg1; have hbr := Below.refl W.heap.size w1; have hG1s := hG1.size; obtain ⟨q1, q2⟩ := HAD.out ks.sum (by omega) (1 + x) (by omega))
        | (at_builtin; refine wpList_append_own _ rfl _ _ 25 rfl W.heap.size 32 i0 (.float .f32 0) 1 4 Try.underlying25 hi0 hz00 hz01 hz02 rfl (by decide) u5 _ _ rfl (hown1.alloc _) ⟨(World.heap w1).size, 0, none⟩ 1 1 [.float .f32 (F (1 + x))] rfl rfl (cell_one_new _ _ _) (one_oneCell rfl) (by unfold maxLen; omega) (by omega) (by simp only [World.size_alloc]; have := hbr.size; omega) ?_; intro v1 w2 hown2 hgx _; have hb2 := app_below hbr (by have := hbr.size; omega) _ hgx hown1 (by omega)))
      have hG2 := grown_then hG1 hb2
      have hs2 := hs1.below (hb2.mono (show b + 1 ≤ W.heap.size by omega))
      rw [← HSN.out] at hown2
      go_roundw
      case rel =>
        refine ⟨ks ++ [1 + x], by rw [List.length_append, List.length_singleton]; omega, ?_, by rw [List.length_append, List.length_singleton]; go_num, Lib.hid (fun k hk => ?_), Lib.hid ?_, by rw [List.length_append, List.length_singleton]; exact hown2, by rw [List.length_append, List.length_singleton]; exact hs2, hG2⟩
        · rw [List.sum_append, List.sum_singleton]
        · rcases List.mem_append.1 hk with h | h
          · exact hks.out k h
          · rw [List.mem_singleton] at h; omega
        · rw [List.sum_append, List.sum_singleton, List.length_append, List.length_singleton]; omega
      case measure => simp [intOf]; omega
    · obtain hkn : ks.length = n := by omega
      rw [hkn] at hown hs
      obtain ⟨a, c, rfl⟩ := ownsRow_shape hown
      obtain ⟨g, rfl, hgW, hgl⟩ := own_some hown hn1
      rw [← HM0.out ks] at hown
      have hsum1 : 1 ≤ ks.sum ∧ ks.sum < 60 := by
        have h2 := hsum.out
        refine ⟨?_, by omega⟩
        cases ks with
        | nil => simp at hkn; omega
        | cons k ks => rw [List.sum_cons]; have := (hks.out k (List.mem_cons_self ..)).1; omega
      have HSUM := Lib.hid hsum1
      have HKN := Lib.hid hkn
      clear hsum1 hk
      obtain ⟨S, hS⟩ : ∃ S, S = F ks.sum := ⟨_, rfl⟩
      have HSS := Lib.hid hS
      rw [← hS]
      clear hS hkn
      go_wp2
      clear hlt
      go_loopw [29] (fun q w2 => ∃ i : Nat, i ≤ n ∧ q = .int .i64 (i : Int) ∧ w2.ownsRow W.heap.size 32 1 (.slice (some ⟨g, 0, none⟩) n c) n (midV ks i) ∧ Src w0 b sv (m + n) w2 ∧ W.grownBy w2 (some b)) (fun q _ => n - (intOf q).toNat)
      case atStart => exact ⟨0, Nat.zero_le _, rfl, hown, hs, hg⟩
      case round =>
        clear hown hs hg hgs
        obtain ⟨i, hi, rfl, hown, hs, hg⟩ := hrel
        by_cases hil : i < n
        · have hc := hown.cellAt i (by omega)
          rw [HMA.out ks i (by rw [HKN.out]; exact hil)] at hc
          have hf := hown.frozenAt i
          have hq := HQU.out ks.sum HSUM.out.2 HSUM.out.1 (ks[i]?.getD 0) (by
            have := (hks.out (ks[i]?.getD 0) (by rw [List.getElem?_eq_getElem (by rw [HKN.out]; exact hil)]; exact List.getElem_mem _)).2
            omega)
          have HST := Lib.hid (hown.stored i (.float .f32 (fA .quo .f32 (F (ks[i]?.getD 0)) S)))
          have HSM := Lib.hid (HMS.out ks i (by rw [HKN.out]; exact hil))
          rw [← HSS.out] at hq HSM
          generalize F (ks[i]?.getD 0) = y at *
          go_wp2
          go_roundw
          case rel => exact ⟨i + 1, by omega, by go_num, by rw [← HSM.out]; exact HST.out.1, hs.below ((Below.refl (b + 1) wr).setCell (show b + 1 ≤ g by omega) _), grown_then hg ((Below.refl W.heap.size wr).setCell hgW _)⟩
          case measure => simp [intOf]; omega
        · obtain rfl : i = n := by omega
          go_wp2
          go_ret
          rw [HME.out ks HKN.out] at hown
          exact ⟨⟨ks, _, _, HKN.out, hks.out, rfl, hown⟩, hs, hg⟩

set_option maxHeartbeats 1000000 in
theorem B10Chances_any (w : World) (sv : Value) (l : List UInt8) (n : Nat) (hl : l.length ≤ 1048576) (hn1 : 1 ≤ n) (hn : n ≤ 8) (hv : SlR w sv (byv l)) :
    Calls Try.prog 21 #[sv, .int .i64 (n : Int)] w fun e w' => (∃ (ks : List Nat) (v : Value), ks.length = n ∧ (∀ k ∈ ks, 1 ≤ k ∧ k ≤ 6) ∧ e = .returned v ∧ SlR w' v ((rowK ks).map (Value.float .f32))) ∧ Below w.heap.size w w' := by
  have HF := Lib.hid (from_any w sv l hv)
  have HC : Hid (∀ W, Src w w.heap.size sv 0 W → Calls Try.prog 70 #[.pointer (some ⟨w.heap.size, 0, none⟩), .int .i64 (n : Int)] W fun e w' => (∃ (ks : List Nat) (a : Option Addr) (c : Nat), ks.length = n ∧ (∀ k ∈ ks, 1 ≤ k ∧ k ≤ 6) ∧ e = .returned (.slice a n c) ∧ w'.ownsRow W.heap.size 32 1 (.slice a n c) n ((rowK ks).map (Value.float .f32))) ∧ Src w w.heap.size sv (0 + n) w' ∧ W.grownBy w' (some w.heap.size)) := Lib.hid fun W hs => b10Chances_any w W w.heap.size 0 n sv l hl (by omega) hn1 hn hv hs
  obtain ⟨a, k0, c0, rfl, -, -, -, -⟩ := SlR.opened (0 : UInt8) hv
  clear hv
  go_enter Try.func21, Try.ntmps21
  go_wp2_with (first
    | (go_at_call 70; refine (HC.out _ hs).mono ?_; rintro e w2 ⟨⟨ks, a2, c2, hk1, hk2, rfl, ho⟩, hs2, hg2⟩)
    | (go_at_call 58; refine HF.out.mono ?_; rintro e w1 ⟨rfl, hs, -⟩))
  go_ret
  exact ⟨⟨ks, _, hk1, hk2, rfl, SlR.own ho⟩, hs2.2.2.1⟩

end Go.Proofs.Ytmocfnpbofeiiaa
