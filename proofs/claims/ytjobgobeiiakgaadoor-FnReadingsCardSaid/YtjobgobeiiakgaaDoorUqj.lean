/- Texts that are made of words in two ways: the program's contracts. -/
import Derived.Test.YtjobgobeiiakgaaDoorUqr
namespace Go.Proofs.YtjobgobeiiakgaaDoor
set_option linter.unusedSimpArgs false
set_option linter.unusedVariables false
open Go.RowKit
open Go.Maps (Keyed Tidy IsMap has size)

set_option maxRecDepth 100000 in
set_option maxHeartbeats 1000000 in
theorem impl_IsUnique (w : World) (v : Value) (ws : List ByteArray) (hv : SlR w v (ws.map Value.string)) (_ : ∀ x ∈ ws, x.size ≤ 9223372036854775807) (hl : ws.length + tob ws ≤ 1048576) :
    Calls Tryd.prog 9 #[v] w fun e w' => e = .returned (.tuple #[.bool (out_IsUnique ws).1, .bool (out_IsUnique ws).2]) ∧ Below w.heap.size w w' := by
  have hL : ∀ j, (wbx ws j).length ≤ 1048576 := fun j => by have := tob_mem ws j; omega
  have hA := areWords_any v ws w hv hL
  cases hk : wsOk ws
  · rw [outU_no hk]
    rw [hk] at hA
    have HA := Lib.hid hA
    clear hk hA hL
    go_enter Tryd.func9, Tryd.ntmps9
    go_wp2_with (go_at_call 27; refine HA.out.mono ?_; rintro e w1 ⟨rfl, hb1⟩)
    go_ret2
    exact ⟨rfl, hb1⟩
  · rw [hk] at hA
    have HA := Lib.hid hA
    have HR := Lib.hid (fun W hW => rests_any v ws W hW hk 0 (Nat.zero_le _))
    have HO := Lib.hid (fun D (h : Fin ws 0 D) => fin_unique hk h)
    generalize out_IsUnique ws = o at *
    clear hk hA hL
    go_enter Tryd.func9, Tryd.ntmps9
    go_wp2_with (first
      | (go_at_call 29; refine (HR.out _ hv1).mono ?_; rintro e w2 ⟨D, rfl, hown, hfin, hb2⟩; have hO := HO.out D hfin; obtain ⟨s, hlook, hs⟩ := OwM.look hown [] (Nat.zero_le _))
      | (go_at_call 27; refine HA.out.mono ?_; rintro e w1 ⟨rfl, hb1⟩; have hv1 := hv.below hb1))
    go_ret2
    rw [hO]
    exact ⟨rfl, hb1.trans (hb2.mono hb1.size)⟩

set_option maxRecDepth 100000 in
set_option maxHeartbeats 1000000 in
theorem impl_TwoReadings (w : World) (v : Value) (ws : List ByteArray) (hv : SlR w v (ws.map Value.string)) (_ : ∀ x ∈ ws, x.size ≤ 9223372036854775807) (hl : ws.length + tob ws ≤ 1048576) :
    Calls Tryd.prog 10 #[v] w fun e w' => e = .returned (.tuple #[.string (out_TwoReadings ws).1, .bool (out_TwoReadings ws).2]) ∧ Below w.heap.size w w' := by
  have hL : ∀ j, (wbx ws j).length ≤ 1048576 := fun j => by have := tob_mem ws j; omega
  have hA := areWords_any v ws w hv hL
  cases hk : wsOk ws
  · rw [outT_no hk]
    rw [hk] at hA
    have HA := Lib.hid hA
    clear hk hA hL
    go_enter Tryd.func10, Tryd.ntmps10
    go_wp2_with (go_at_call 27; refine HA.out.mono ?_; rintro e w1 ⟨rfl, hb1⟩)
    go_ret2
    exact ⟨rfl, hb1⟩
  · rw [hk] at hA
    have HA := Lib.hid hA
    have HR := Lib.hid (fun W hW => rests_any v ws W hW hk 32 (Nat.le_refl _))
    have HO := Lib.hid (fun D (h : Fin ws 32 D) (s : List UInt8) (hs : D.atKey (.string []) (.lit (.string [])) = .lit (.string s)) => (show out_TwoReadings ws = (⟨s.toArray⟩, has D (.string [])) from by
      obtain ⟨h1, h2⟩ := fin_two hk h
      cases hh : has D (.string [])
      · rw [h1 hh]
        have hs2 : s = [] := by
          have hn : ent D [] = none := by unfold ent; rw [hh]; rfl
          obtain ⟨es, he, -⟩ := h.1.1
          subst he
          have : (DataW.map es : TM).atKey (.string []) (.lit (.string [])) = .lit (.string []) := Go.Maps.atKey_of_not_has hh _
          rw [this] at hs
          cases hs; rfl
        rw [hs2]
      · exact h2 s hh hs))
    generalize out_TwoReadings ws = o at *
    clear hk hA hL
    go_enter Tryd.func10, Tryd.ntmps10
    go_wp2_with (first
      | (go_at_call 29; refine (HR.out _ hv1).mono ?_; rintro e w2 ⟨D, rfl, hown, hfin, hb2⟩; obtain ⟨s, hlook, hs⟩ := OwM.look hown [] (Nat.zero_le _); have hO := HO.out D hfin s hs)
      | (go_at_call 27; refine HA.out.mono ?_; rintro e w1 ⟨rfl, hb1⟩; have hv1 := hv.below hb1))
    go_ret2
    rw [hO]
    exact ⟨rfl, hb1.trans (hb2.mono hb1.size)⟩

end Go.Proofs.YtjobgobeiiakgaaDoor
