/- Numbers' texts: hexOf. -/
import Derived.Test.YtimhljcebeiofaaGreatDoorPrJ
import Derived.Test.YtimhljcebeiofaaGreatDoorShelf
import Derived.Test.YtimhljcebeiofaaGreatDoorTxtP
namespace Go.Proofs.YtimhljcebeiofaaGreatDoor
set_option linter.unusedSimpArgs false
set_option linter.unusedVariables false
open Go.RowKit
theorem ret_strX {a b l : List UInt8} (h : a ++ b = l) : Ending.returned (.string (⟨a.toArray⟩ ++ ⟨b.toArray⟩)) = .returned (.string ⟨l.toArray⟩) := by
  rw [ByteArray.mk_append_mk, h]
theorem repeatL_oneX (c : UInt8) : ∀ n, Lib.repeatL [c] n = List.replicate n c
  | 0 => rfl
  | n + 1 => by rw [List.replicate_succ, ← repeatL_oneX c n]; rfl
theorem repeatX_any (c : UInt8) (m : Nat) (w : World) (hm : m ≤ 1048576) :
    Calls Tryz.prog 57 #[.string ⟨[c].toArray⟩, .int .i64 m] w fun e w' => e = .returned (.string ⟨(List.replicate m c).toArray⟩) ∧ Below w.heap.size w w' := by
  have h := Tryz.strings_Repeat ⟨[c].toArray⟩ m w (by omega) (by rw [show (ByteArray.mk [c].toArray).size = 1 from rfl]; omega)
  rw [show (ByteArray.mk [c].toArray).data.toList = [c] from rfl, repeatL_oneX] at h
  exact h

set_option maxHeartbeats 1000000 in
theorem hexOf_any (x : Nat) (hx : x < 4294967296) (w : World) (h : w.cell? ⟨6, 15, none⟩ = some (.int .u8 4)) :
    Calls Tryz.prog 36 #[.float .f32 x] w fun e w' => e = .returned (.string ⟨(hex8 (bC x)).toArray⟩) ∧ Below w.heap.size w w' := by
  have hc : bC x < 4294967296 := bC_lt hx
  have HB := Lib.hid (bitsOfI_any x w hx)
  have HF := Lib.hid (fmtInt_any (bC x) hc w h)
  have hlen := hexT_len (u := bC x) hc
  have HR := Lib.hid (fun W => repeatX_any 48 (8 - (hexT (bC x)).length) W (by omega))
  have HE := Lib.hid (hex8_eq (bC x))
  have hcn : cn x = bC x := rfl
  rw [hcn] at HB
  have e1 : (8 : Int) - ((hexT (bC x)).length : Int) = ((8 - (hexT (bC x)).length : Nat) : Int) := by omega
  clear h hcn
  generalize hex8 (bC x) = o at *
  generalize hexT (bC x) = t at *
  generalize List.replicate (8 - t.length) 48 = z at *
  generalize bC x = n at *
  generalize 8 - t.length = k at *
  go_enter Tryz.func36, Tryz.ntmps36
  go_wp2_with (first
    | (go_at_call 20; refine HB.out.mono ?_; rintro e w' ⟨rfl, rfl⟩)
    | (go_at_call 56; refine HF.out.mono ?_; rintro e w1 ⟨rfl, hb⟩)
    | (go_at_call 57; refine (HR.out _).mono ?_; rintro e w2 ⟨rfl, hb2⟩))
  go_ret
  exact ⟨ret_strX HE.out.symm, hb.trans (hb2.mono hb.size)⟩

end Go.Proofs.YtimhljcebeiofaaGreatDoor
