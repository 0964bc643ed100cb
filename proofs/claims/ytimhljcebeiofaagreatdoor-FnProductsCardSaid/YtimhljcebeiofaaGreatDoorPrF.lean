/- The library's numbers to the base 16: formatBits. -/
import Derived.Test.YtimhljcebeiofaaGreatDoorPrB
import Derived.Deep.RegionHeld3
import Derived.Deep.Cut
import Derived.Deep.WholeRow
namespace Go.Proofs.YtimhljcebeiofaaGreatDoor
set_option linter.unusedSimpArgs false
set_option linter.unusedVariables false
open Go.RowKit
/-- The cells of the text's array: nothing below place i, the text from there on. -/
def bfC (i : Nat) (t : List UInt8) (j : Nat) : Int := if j < i then 0 else (((t[j - i]?.getD 0).toNat : Nat) : Int)
def Bf (W : World) (g i : Nat) (t : List UInt8) : Prop := i + t.length = 65 ∧ (∀ j, j < 65 → W.cell? ⟨g, j, none⟩ = some (.int .u8 (bfC i t j))) ∧ ∀ j, W.frozen? ⟨g, j, none⟩ = false
theorem Bf.put {W : World} {g i : Nat} {t : List UInt8} (h : Bf W g (i + 1) t) (c : UInt8) : Bf (W.setCell ⟨g, i, none⟩ (.int .u8 ((c.toNat : Nat) : Int))) g i (c :: t) := by
  obtain ⟨h1, h2, h3⟩ := h
  refine ⟨by simp only [List.length_cons]; omega, fun j hj => ?_, fun j => (World.frozen?_setCell _ _ _ _).trans (h3 j)⟩
  by_cases he : j = i
  · subst he
    rw [World.cell?_setCell_same W _ _ (h2 j (by omega))]
    simp [bfC]
  · rw [World.cell?_setCell_other W _ _ _ (fun e => he (congrArg Addr.off e).symm), h2 j hj]
    unfold bfC
    by_cases hl : j < i
    · rw [if_pos (by omega), if_pos hl]
    · rw [if_neg (by omega), if_neg hl, show j - i = (j - (i + 1)) + 1 by omega, List.getElem?_cons_succ]
theorem hexT_lo {u : Nat} (h : u < 16) : hexT u = [dg u] := by unfold hexT; rw [dgs_lo h]; rfl
theorem hexT_hi {u : Nat} (h : 16 ≤ u) : hexT u = hexT (u / 16) ++ [dg (u % 16)] := by unfold hexT; rw [dgs_hi h, List.map_append]; rfl
theorem hexT_len {u : Nat} (h : u < 4294967296) : 1 ≤ (hexT u).length ∧ (hexT u).length ≤ 8 := by
  unfold hexT
  rw [List.length_map]
  exact ⟨dgs_pos u, dgs_len u 8 (by omega) (by simpa using h)⟩
theorem and_15 (u : Nat) (h : u < 4294967296) : bits .and .u64 (u : Int) 15 = ((u % 16 : Nat) : Int) := by
  have key : (BitVec.ofInt 64 (u : Int) &&& BitVec.ofInt 64 ((15 : Nat) : Int)).toNat = u % 16 := by
    rw [BitVec.toNat_and, BitVec.ofInt_natCast, BitVec.ofInt_natCast, BitVec.toNat_ofNat, BitVec.toNat_ofNat, Nat.mod_eq_of_lt (by omega), Nat.mod_eq_of_lt (by omega)]
    exact Nat.and_two_pow_sub_one_eq_mod u 4
  show IntKind.u64.wrap ((BitVec.ofInt 64 (u : Int) &&& BitVec.ofInt 64 ((15 : Nat) : Int)).toNat : Nat) = _
  rw [key, IntKind.wrap_u64]
  omega

set_option maxRecDepth 4000 in
set_option maxHeartbeats 4000000 in
theorem formatBits_any (n : Nat) (hn : n < 4294967296) (w : World) (h : w.cell? ⟨6, 15, none⟩ = some (.int .u8 4)) :
    Calls Tryz.prog 79 #[.slice none 0 0, .int .u64 (n : Int), .int .i64 16, .bool false, .bool false] w fun e w' => e = .returned (.tuple #[.slice none 0 0, .string ⟨(hexT n).toArray⟩]) ∧ Below w.heap.size w w' := by
  have hgl : 6 < w.heap.size := World.block_lt_of_cell? _ _ h
  have HZ : Hid (∀ j, j < 65 → (w.alloc (.cells Tryz.zeroCells127 127)).cell? ⟨w.heap.size, j, none⟩ = some (.int .u8 0)) := Lib.hid fun j hj => by
    have e : Tryz.zeroCells127 = Array.replicate 65 (.int .u8 0) := by kernel_rfl
    rw [World.cell?_alloc_at _ _ _ _ rfl, e]
    simp [hj]
  have H1 := Lib.hid (fun W => pow2_any W)
  have HTZ : Hid (∀ W, Below w.heap.size w W → Calls Tryz.prog 98 #[.int .u64 16] W fun e w' => e = .returned (.int .i64 4) ∧ W = w') := Lib.hid fun W hW => tz_any W ((hW.cell (p := ⟨6, 15, none⟩) hgl).trans h)
  clear h hgl
  go_enter Tryz.func79, Tryz.ntmps79
  go_upto_region 11 with (first
    | (go_at_call 97; refine (H1.out _).mono ?_; rintro e w' ⟨rfl, rfl⟩)
    | (go_at_call 98; refine (HTZ.out _ (by go_grown)).mono ?_; rintro e w' ⟨rfl, rfl⟩))
  go_loopw [1, 13] (fun q v W => ∃ (u i : Nat) (t : List UInt8), q = .int .u64 (u : Int) ∧ v = .int .i64 (i : Int) ∧ u ≤ n ∧ Hid (hexT n = hexT u ++ t) ∧ Hid (Bf W w.heap.size i t) ∧ 58 ≤ i ∧ i ≤ 65 ∧ Below w.heap.size w W) (fun q _ _ => (intOf q).toNat)
  case atStart => exact ⟨n, 65, [], rfl, rfl, Nat.le_refl _, Lib.hid (by rw [List.append_nil]), Lib.hid ⟨rfl, fun j hj => by rw [HZ.out j hj]; unfold bfC; rw [if_pos hj], fun j => by simp⟩, by omega, by omega, by go_grown⟩
  case round =>
    obtain ⟨u, i, t, rfl, rfl, hu, ht, hB, hi, hi2, hb⟩ := hrel
    obtain ⟨i, rfl⟩ : ∃ k, i = k + 1 := ⟨i - 1, by omega⟩
    have e1 : ((i + 1 : Nat) : Int) - 1 = (i : Int) := by omega
    have c0 := hB.out.2.1 i (by omega)
    rw [show bfC (i + 1) t i = 0 by unfold bfC; rw [if_pos (by omega)]] at c0
    have f0 := hB.out.2.2 i
    by_cases hlt : 16 ≤ u
    · have hA := and_15 u (by omega)
      have hd : u % 16 < 16 := Nat.mod_lt _ (by omega)
      have HU := Lib.hid (hexT_hi hlt)
      have HDG : Hid (∀ (d : Nat) (hd : d < 16), (({ data := #[48, 49, 50, 51, 52, 53, 54, 55, 56, 57, 97, 98, 99, 100, 101, 102, 103, 104, 105, 106, 107, 108, 109, 110, 111, 112, 113, 114, 115, 116, 117, 118, 119, 120, 121, 122] } : ByteArray)[d]'(Nat.lt_of_lt_of_le hd (by decide))).toNat = (dg d).toNat) := Lib.hid (by decide)
      have hu16 : (u : Int) / 16 = ((u / 16 : Nat) : Int) := by omega
      have hu17 : u / 16 < u := by omega
      have HLN : Hid ((hexT (u / 16)).length + 1 + t.length ≤ 8) := by
        have l1 := (hexT_len (u := n) hn).2
        have l2 := congrArg List.length ht.out
        rw [HU.out] at l2
        simp only [List.length_append, List.length_singleton] at l2
        exact Lib.hid (by omega)
      have HL2 := Lib.hid (hexT_len (u := u / 16) (by omega)).1
      generalize hmm : u % 16 = d at *
      clear hmm
      generalize u / 16 = u2 at *
      go_wp2
      go_roundw
      case rel =>
        refine ⟨u2, i, dg d :: t, rfl, rfl, by omega, Lib.hid (by rw [ht.out, HU.out, List.append_assoc]; rfl), Lib.hid ?_, ?_, by omega, hb.setCell (p := ⟨w.heap.size, i, none⟩) (Nat.le_refl _) _⟩
        · have := hB.out.put (dg d)
          rw [← HDG.out d hd] at this
          exact this
        · have h1 := hB.out.1
          have h2 := HLN.out
          have h3 := HL2.out
          omega
      case measure => simp [intOf]; omega
    · have hu15 : u < 16 := by omega
      have HDG : Hid (∀ (d : Nat) (hd : d < 16), (({ data := #[48, 49, 50, 51, 52, 53, 54, 55, 56, 57, 97, 98, 99, 100, 101, 102, 103, 104, 105, 106, 107, 108, 109, 110, 111, 112, 113, 114, 115, 116, 117, 118, 119, 120, 121, 122] } : ByteArray)[d]'(Nat.lt_of_lt_of_le hd (by decide))).toNat = (dg d).toNat) := Lib.hid (by decide)
      have HT : Hid (hexT n = dg u :: t) := Lib.hid (by rw [ht.out, hexT_lo hu15]; rfl)
      have HW := Lib.hid (hB.out.put (dg u))
      have HB2 : Hid (∀ v, Below w.heap.size w (wr.setCell ⟨w.heap.size, i, none⟩ v)) := Lib.hid fun v => hb.setCell (p := ⟨w.heap.size, i, none⟩) (Nat.le_refl _) _
      clear ht hB hb
      go_upto_region 30 with fail
      rw [HDG.out u hu15]
      have hbe := HB2.out (.int .u8 (((dg u).toNat : Nat) : Int))
      have hBe := HW.out
      generalize wr.setCell ⟨w.heap.size, i, none⟩ (.int .u8 (((dg u).toNat : Nat) : Int)) = W3 at *
      obtain ⟨b1, b2, b3⟩ := hBe
      have hAL : Tryz.prog.arrayLen 127 = 65 := by kernel_rfl
      have HSL : ∀ W, (Instr.sliceAt 127 (.pointer (some ⟨w.heap.size, 0, none⟩)) (some (.int .i64 (i : Int))) none none).run Tryz.prog W = .ok (.slice (some ⟨w.heap.size, i, none⟩) (65 - i) (65 - i)) W := fun W => by
        have r := run_sliceAt_array_l (P := Tryz.prog) W 127 ⟨w.heap.size, 0, none⟩ (by kernel_rfl) .i64 (i : Int) (by omega) (by rw [hAL]; omega)
        rw [r, hAL]
        have hz : (sizeOf (Tryz.prog.elem 127)).run Tryz.prog W = .ok 1 W := by
          rw [show Tryz.prog.elem 127 = 5 by kernel_rfl]
          simp
        rw [hz]
        simp only [Result.andThen, slicedAt, Int.toNat_natCast]
        rw [if_neg (by omega), Addr.add_lit, Nat.zero_add, Nat.mul_one]
      have HCV : (convert 22 9 (.slice (some ⟨w.heap.size, i, none⟩) (65 - i) (65 - i))).run Tryz.prog W3 = .ok (.string ⟨(dg u :: t).toArray⟩) W3 := by
        have := run_convert_bytes_back (P := Tryz.prog) W3 22 9 5 ⟨w.heap.size, i, none⟩ (65 - i) (dg u :: t) Tryz.underlying22 Tryz.underlying5 Tryz.underlying9 (fun j hj => by
          have h1 := b2 (i + j) (by omega)
          unfold bfC at h1
          rw [if_neg (by omega), show i + j - i = j by omega, List.getElem?_eq_getElem hj] at h1
          rw [Addr.add_lit]
          exact h1)
        rwa [show (dg u :: t).length = 65 - i by omega] at this
      clear b1 b2 b3 HW HB2 hAL
      go_wp2
      go_ret2
      exact ⟨by rw [HT.out]; rfl, hbe⟩

set_option maxHeartbeats 1000000 in
theorem fmtInt0_any (n : Nat) (hn : n < 4294967296) (w : World) (h : w.cell? ⟨6, 15, none⟩ = some (.int .u8 4)) :
    Calls Tryz.prog 65 #[.int .i64 (n : Int), .int .i64 16] w fun e w' => e = .returned (.string ⟨(hexT n).toArray⟩) ∧ Below w.heap.size w w' := by
  have HF := Lib.hid (formatBits_any n hn w h)
  clear h
  generalize hexT n = t at *
  go_enter Tryz.func65, Tryz.ntmps65
  go_wp2_with (go_at_call 79; refine HF.out.mono ?_; rintro e w1 ⟨rfl, hb⟩)
  go_ret
  exact ⟨rfl, hb⟩

set_option maxHeartbeats 1000000 in
theorem fmtInt_any (n : Nat) (hn : n < 4294967296) (w : World) (h : w.cell? ⟨6, 15, none⟩ = some (.int .u8 4)) :
    Calls Tryz.prog 56 #[.int .i64 (n : Int), .int .i64 16] w fun e w' => e = .returned (.string ⟨(hexT n).toArray⟩) ∧ Below w.heap.size w w' := by
  have HF := Lib.hid (fmtInt0_any n hn w h)
  clear h
  generalize hexT n = t at *
  go_enter Tryz.func56, Tryz.ntmps56
  go_wp2_with (go_at_call 65; refine HF.out.mono ?_; rintro e w1 ⟨rfl, hb⟩)
  go_ret
  exact ⟨rfl, hb⟩

end Go.Proofs.YtimhljcebeiofaaGreatDoor
