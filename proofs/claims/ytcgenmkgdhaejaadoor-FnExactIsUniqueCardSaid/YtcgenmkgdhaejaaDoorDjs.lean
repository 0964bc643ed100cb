/- Texts that are made of words in two ways: the reference's contracts. -/
import Derived.Test.YtcgenmkgdhaejaaDoorDjr
import Derived.Test.YtcgenmkgdhaejaaDoorUqj
namespace Go.Proofs.YtcgenmkgdhaejaaDoor
set_option linter.unusedSimpArgs false
set_option linter.unusedVariables false
open Go.RowKit

set_option maxRecDepth 100000 in
set_option maxHeartbeats 1000000 in
theorem spec_IsUnique (w : World) (v : Value) (ws : List ByteArray) (hv : SlR w v (ws.map Value.string)) (_ : ∀ x ∈ ws, x.size ≤ 9223372036854775807) (hl : ws.length + tob ws ≤ 1048576) :
    Calls Tryd.prog 13 #[v] w fun e w' => e = .returned (.tuple #[.bool (out_IsUnique ws).1, .bool (out_IsUnique ws).2]) ∧ Below w.heap.size w w' := by
  have hL : ∀ j, (wbx ws j).length ≤ 1048576 := fun j => by have := tob_mem ws j; omega
  have hA := l04List_any v ws w hv hL
  cases hk : wsOk ws
  · rw [outU_no hk]
    rw [hk] at hA
    have HA := Lib.hid hA
    clear hk hA hL
    go_enter Tryd.func13, Tryd.ntmps13
    go_wp2_with (go_at_call 33; refine HA.out.mono ?_; rintro e w1 ⟨rfl, rfl⟩)
    go_ret2
    exact ⟨rfl, Below.refl _ _⟩
  · rw [hk] at hA
    have HA := Lib.hid hA
    have HR := Lib.hid (l04Readings_any v ws w hv hk)
    have HO : Hid (∀ (t : List UInt8) (b : Bool), ((b = true ∧ isMin ws t) ∨ (b = false ∧ t = [] ∧ ¬ ∃ t, Way ws [] t)) → out_IsUnique ws = (!b, true)) := by
      show ∀ (t : List UInt8) (b : Bool), _
      rintro t b (⟨rfl, h⟩ | ⟨rfl, rfl, h⟩)
      · exact outU_two hk ⟨t, h.1⟩
      · exact outU_one hk h
    generalize out_IsUnique ws = o at *
    clear hk hA hL
    go_enter Tryd.func13, Tryd.ntmps13
    go_wp2_with (first
      | (go_at_call 34; refine HR.out.mono ?_; rintro e w2 ⟨x, rfl, t, b, rfl, ht, hb2⟩; have hO := HO.out t b ht; clear ht)
      | (go_at_call 33; refine HA.out.mono ?_; rintro e w1 ⟨rfl, rfl⟩))
    go_ret2
    rw [hO]
    exact ⟨rfl, hb2⟩

set_option maxRecDepth 100000 in
set_option maxHeartbeats 1000000 in
theorem spec_TwoReadings (w : World) (v : Value) (ws : List ByteArray) (hv : SlR w v (ws.map Value.string)) (_ : ∀ x ∈ ws, x.size ≤ 9223372036854775807) (hl : ws.length + tob ws ≤ 1048576) :
    Calls Tryd.prog 17 #[v] w fun e w' => e = .returned (.tuple #[.string (out_TwoReadings ws).1, .bool (out_TwoReadings ws).2]) ∧ Below w.heap.size w w' := by
  have hL : ∀ j, (wbx ws j).length ≤ 1048576 := fun j => by have := tob_mem ws j; omega
  have hA := l04List_any v ws w hv hL
  cases hk : wsOk ws
  · rw [outT_no hk]
    rw [hk] at hA
    have HA := Lib.hid hA
    clear hk hA hL
    go_enter Tryd.func17, Tryd.ntmps17
    go_wp2_with (go_at_call 33; refine HA.out.mono ?_; rintro e w1 ⟨rfl, rfl⟩)
    go_ret2
    exact ⟨rfl, Below.refl _ _⟩
  · rw [hk] at hA
    have HA := Lib.hid hA
    have HR := Lib.hid (l04Readings_any v ws w hv hk)
    have HW := wsOk_bits hk
    have HO : Hid (∀ (t : List UInt8) (b : Bool), ((b = true ∧ isMin ws t) ∨ (b = false ∧ t = [] ∧ ¬ ∃ t, Way ws [] t)) → out_TwoReadings ws = if b = true ∧ t.length ≤ 32 then (⟨t.toArray⟩, true) else (⟨#[]⟩, false)) := by
      show ∀ (t : List UInt8) (b : Bool), _
      rintro t b (⟨rfl, h⟩ | ⟨rfl, rfl, h⟩)
      · by_cases hl : t.length ≤ 32
        · rw [if_pos ⟨rfl, hl⟩]; exact outT_some hk h hl
        · rw [if_neg (fun e => hl e.2)]
          exact outT_none fun ⟨u, hu, hul⟩ => hl (by rw [isMin_one HW h hu]; exact hul)
      · rw [if_neg (fun e => by cases e.1)]
        exact outT_none fun ⟨u, hu, hul⟩ => h ⟨u, hu.1⟩
    generalize out_TwoReadings ws = o at *
    clear hk hA hL HW
    go_enter Tryd.func17, Tryd.ntmps17
    go_wp2_with (go_at_call 33; refine HA.out.mono ?_; rintro e w1 ⟨rfl, rfl⟩)
    refine HR.out.mono ?_
    rintro e w2 ⟨x, rfl, t, b, rfl, ht, hb2⟩
    have hO := HO.out t b ht
    clear ht
    cases b
    · rw [if_neg (fun e => by cases e.1)] at hO
      have HOO := Lib.hid hO
      clear hO
      go_wp2
      go_ret2
      rw [HOO.out]
      exact ⟨rfl, hb2⟩
    · by_cases hl : t.length ≤ 32
      · rw [if_pos ⟨rfl, hl⟩] at hO
        have HOO := Lib.hid hO
        have hli : ¬ (32 : Int) < (t.length : Int) := by omega
        clear hO
        go_wp2
        go_ret2
        rw [HOO.out]
        exact ⟨rfl, hb2⟩
      · rw [if_neg (fun e => hl e.2)] at hO
        have HOO := Lib.hid hO
        have hli : (32 : Int) < (t.length : Int) := by omega
        clear hO
        go_wp2
        go_ret2
        rw [HOO.out]
        exact ⟨rfl, hb2⟩

end Go.Proofs.YtcgenmkgdhaejaaDoor
