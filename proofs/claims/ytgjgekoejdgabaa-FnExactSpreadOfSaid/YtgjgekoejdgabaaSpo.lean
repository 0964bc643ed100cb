/- The spread of two rows. -/
import Derived.Test.YtgjgekoejdgabaaSpr
namespace Go.Proofs.Ytgjgekoejdgabaa
set_option linter.unusedSimpArgs false
set_option linter.unusedVariables false
open Go.RowKit


set_option maxHeartbeats 2000000 in
theorem impl_SpreadOf (w : World) (v : Value) (xs : List Nat) (hv : SlR w v (xs.map (Value.float .f32))) (hx : ∀ x ∈ xs, x < 4294967296) (_ : xs.length ≤ 1048576) (u : Value) (ys : List Nat) (hu : SlR w u (ys.map (Value.float .f32))) (hy : ∀ x ∈ ys, x < 4294967296) (_ : ys.length ≤ 1048576) :
    Calls Try.prog 17 #[v, u] w fun e w' => e = .returned (.tuple #[.float .f32 (out_SpreadOf xs ys).1, .bool (out_SpreadOf xs ys).2]) ∧ Below w.heap.size w w' := by
  have HX := Lib.hid hx
  have HY := Lib.hid hy
  have HVB := Lib.hid (fun (W : World) (hq : Below w.heap.size w W) => hv.below hq)
  have HUB := Lib.hid (fun (W : World) (hq : Below w.heap.size w W) => hu.below hq)
  clear hx hy
  generalize hd : twB xs ys = d
  have HD := Lib.hid hd
  have HV := Lib.hid hv
  have HU := Lib.hid hu
  cases d
  · rw [sp_no hd]
    clear hd hv hu
    go_enter Try.func17, Try.ntmps17
    go_wp2_with (go_at_call 64; refine (areRows_any _ _ xs ys _ HV.out HU.out HX.out HY.out).mono ?_; rw [HD.out]; rintro e w1 ⟨rfl, hq1⟩)
    go_ret2
    exact ⟨rfl, hq1.below _⟩
  · obtain ⟨rx, ry, he⟩ := twB_split hd
    obtain ⟨ex, lx⟩ := row_en rx
    obtain ⟨ey, ly⟩ := row_en ry
    obtain ⟨s1, ⟨s2, s3⟩, s4, s5⟩ := sp_some hd
    rw [sp_yes hd]
    have EX := Lib.hid ex
    have EY := Lib.hid ey
    have EM := Lib.hid (mxL_en ex ey he)
    have LX := Lib.hid lx
    have LY := Lib.hid ly
    have LM : Hid ((mxL xs ys xs.length).length ≤ 64) := by show (mxL xs ys xs.length).length ≤ 64; rw [mxL_length]; exact lx
    have HE := Lib.hid he
    have h4 : fA .mul .f32 1056964608 (fA .add .f32 (entF xs) (entF ys)) = spH xs ys := rfl
    have h5 : spV xs ys = fA .sub .f32 (entF (mxL xs ys xs.length)) (spH xs ys) := rfl
    rw [h5]
    clear h5 hd hv hu rx ry ex ey lx ly he
    obtain ⟨ea, hea⟩ : ∃ ea, ea = entF xs := ⟨_, rfl⟩
    obtain ⟨eb, heb⟩ : ∃ eb, eb = entF ys := ⟨_, rfl⟩
    obtain ⟨em, hem⟩ : ∃ em, em = entF (mxL xs ys xs.length) := ⟨_, rfl⟩
    obtain ⟨hh, hhh⟩ : ∃ hh, hh = spH xs ys := ⟨_, rfl⟩
    rw [← hea, ← heb] at s1 s2 s3 s4 h4
    rw [← hhh] at s3 s5 h4 ⊢
    rw [← hem] at s5 ⊢
    have HEA := Lib.hid hea
    have HEB := Lib.hid heb
    have HEM := Lib.hid hem
    clear hea heb hem hhh
    go_enter Try.func17, Try.ntmps17
    go_wp2_with (first
      | (go_at_call 65; refine (entropy_any _ _ _ (SlR.own hop) EM.out LM.out).mono ?_; rw [← HEM.out]; rintro e w5 ⟨rfl, hq5⟩; have hb5 := hb4.trans (hq5.below _))
      | (go_at_call 65; refine (entropy_any _ ys _ hu2 EY.out LY.out).mono ?_; rw [← HEB.out]; rintro e w3 ⟨rfl, hq3⟩; have hb3 := hb2.trans (hq3.below _); have hv3 := HVB.out _ hb3; have hu3 := HUB.out _ hb3)
      | (go_at_call 65; refine (entropy_any _ xs _ hv1 EX.out LX.out).mono ?_; rw [← HEA.out]; rintro e w2 ⟨rfl, hq2⟩; have hb2 := hb1.trans (hq2.below _); have hu2 := HUB.out _ hb2)
      | (go_at_call 67; refine (mixed_any _ _ xs ys _ hv3 hu3 EX.out EY.out HE.out LX.out).mono ?_; rintro e w4 ⟨ap, cp, rfl, hop, hbp⟩; have hb4 := hb3.trans (hbp.mono hb3.size))
      | (go_at_call 66; refine (asNumber_any _ _).mono ?_; rintro e w6 ⟨rfl, hq6⟩)
      | (go_at_call 64; refine (areRows_any _ _ xs ys _ HV.out HU.out HX.out HY.out).mono ?_; rw [HD.out]; rintro e w1 ⟨rfl, hq1⟩; have hb1 := hq1.below w.heap.size; have hv1 := HVB.out _ hb1))
    go_ret2
    exact ⟨rfl, hb5.trans (hq6.below _)⟩

set_option maxHeartbeats 2000000 in
theorem spec_SpreadOf (w : World) (v : Value) (xs : List Nat) (hv : SlR w v (xs.map (Value.float .f32))) (hx : ∀ x ∈ xs, x < 4294967296) (_ : xs.length ≤ 1048576) (u : Value) (ys : List Nat) (hu : SlR w u (ys.map (Value.float .f32))) (hy : ∀ x ∈ ys, x < 4294967296) (_ : ys.length ≤ 1048576) :
    Calls Try.prog 15 #[v, u] w fun e w' => e = .returned (.tuple #[.float .f32 (out_SpreadOf xs ys).1, .bool (out_SpreadOf xs ys).2]) ∧ Below w.heap.size w w' := by
  have HX := Lib.hid hx
  have HY := Lib.hid hy
  have HVB := Lib.hid (fun (W : World) (hq : Below w.heap.size w W) => hv.below hq)
  have HUB := Lib.hid (fun (W : World) (hq : Below w.heap.size w W) => hu.below hq)
  clear hx hy
  generalize hd : twB xs ys = d
  have HD := Lib.hid hd
  have HV := Lib.hid hv
  have HU := Lib.hid hu
  cases d
  · rw [sp_no hd]
    clear hd hv hu
    go_enter Try.func15, Try.ntmps15
    go_wp2_with (go_at_call 60; refine (l02Two_any _ _ xs ys _ HV.out HU.out HX.out HY.out).mono ?_; rw [HD.out]; rintro e w1 ⟨rfl, hq1⟩)
    go_ret2
    exact ⟨rfl, hq1.below _⟩
  · obtain ⟨rx, ry, he⟩ := twB_split hd
    obtain ⟨ex, lx⟩ := row_en rx
    obtain ⟨ey, ly⟩ := row_en ry
    obtain ⟨s1, ⟨s2, s3⟩, s4, s5⟩ := sp_some hd
    rw [sp_yes hd]
    have EX := Lib.hid ex
    have EY := Lib.hid ey
    have EM := Lib.hid (mxL_en ex ey he)
    have LX := Lib.hid lx
    have LY := Lib.hid ly
    have LM : Hid ((mxL xs ys xs.length).length ≤ 64) := by show (mxL xs ys xs.length).length ≤ 64; rw [mxL_length]; exact lx
    have HE := Lib.hid he
    have h4 : fA .mul .f32 1056964608 (fA .add .f32 (entF xs) (entF ys)) = spH xs ys := rfl
    have h5 : spV xs ys = fA .sub .f32 (entF (mxL xs ys xs.length)) (spH xs ys) := rfl
    rw [h5]
    clear h5 hd hv hu rx ry ex ey lx ly he
    obtain ⟨ea, hea⟩ : ∃ ea, ea = entF xs := ⟨_, rfl⟩
    obtain ⟨eb, heb⟩ : ∃ eb, eb = entF ys := ⟨_, rfl⟩
    obtain ⟨em, hem⟩ : ∃ em, em = entF (mxL xs ys xs.length) := ⟨_, rfl⟩
    obtain ⟨hh, hhh⟩ : ∃ hh, hh = spH xs ys := ⟨_, rfl⟩
    rw [← hea, ← heb] at s1 s2 s3 s4 h4
    rw [← hhh] at s3 s5 h4 ⊢
    rw [← hem] at s5 ⊢
    have HEA := Lib.hid hea
    have HEB := Lib.hid heb
    have HEM := Lib.hid hem
    clear hea heb hem hhh
    go_enter Try.func15, Try.ntmps15
    go_wp2_with (first
      | (go_at_call 61; refine (l02Entropy_any _ _ _ (SlR.own hop) EM.out LM.out).mono ?_; rw [← HEM.out]; rintro e w5 ⟨rfl, hq5⟩; have hb5 := hb4.trans (hq5.below _))
      | (go_at_call 61; refine (l02Entropy_any _ ys _ hu2 EY.out LY.out).mono ?_; rw [← HEB.out]; rintro e w3 ⟨rfl, hq3⟩; have hb3 := hb2.trans (hq3.below _); have hv3 := HVB.out _ hb3; have hu3 := HUB.out _ hb3)
      | (go_at_call 61; refine (l02Entropy_any _ xs _ hv1 EX.out LX.out).mono ?_; rw [← HEA.out]; rintro e w2 ⟨rfl, hq2⟩; have hb2 := hb1.trans (hq2.below _); have hu2 := HUB.out _ hb2)
      | (go_at_call 63; refine (l02Mix_any _ _ xs ys _ hv3 hu3 EX.out EY.out HE.out LX.out).mono ?_; rintro e w4 ⟨ap, cp, rfl, hop, hbp⟩; have hb4 := hb3.trans (hbp.mono hb3.size))
      | (go_at_call 62; refine (l02Number_any _ _).mono ?_; rintro e w6 ⟨rfl, hq6⟩)
      | (go_at_call 60; refine (l02Two_any _ _ xs ys _ HV.out HU.out HX.out HY.out).mono ?_; rw [HD.out]; rintro e w1 ⟨rfl, hq1⟩; have hb1 := hq1.below w.heap.size; have hv1 := HVB.out _ hb1))
    go_ret2
    exact ⟨rfl, hb5.trans (hq6.below _)⟩

end Go.Proofs.Ytgjgekoejdgabaa
