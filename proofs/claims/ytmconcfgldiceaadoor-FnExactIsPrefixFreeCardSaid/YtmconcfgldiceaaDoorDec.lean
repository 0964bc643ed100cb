/- Letters read back from their words: the program's side. -/
import Derived.Test.YtmconcfgldiceaaDoorDecP
import Derived.Test.YtmconcfgldiceaaDoorWrs
import Derived.Test.YtmconcfgldiceaaDoorShelf
namespace Go.Proofs.YtmconcfgldiceaaDoor
set_option linter.unusedSimpArgs false
set_option linter.unusedVariables false
open Go.RowKit
theorem wbx_eq (ws : List ByteArray) (n : Nat) : ws[n]?.getD ⟨#[]⟩ = ⟨(wbx ws n).toArray⟩ := by unfold wbx; simp
/-- What IndexFunc gives. -/
def fndI (o : Option Nat) : Int := match o with | some k => (k : Int) | none => -1

set_option maxHeartbeats 400000 in
theorem isHead_any (u : List UInt8) (b : Nat) (r : List UInt8) (w : World) (hc : w.cell? ⟨b, 0, none⟩ = some (.string ⟨r.toArray⟩)) :
    Calls Tryd.prog 38 #[.string ⟨u.toArray⟩, .pointer (some ⟨b, 0, none⟩)] w fun e w' => e = .returned (.bool (u.isPrefixOf r)) ∧ w = w' := by
  have HP : Hid (∀ W : World, Calls Tryd.prog 39 #[.string ⟨r.toArray⟩, .string ⟨u.toArray⟩] W fun e w' => e = .returned (.bool (u.isPrefixOf r)) ∧ w' = W) := by
    show ∀ W : World, _
    exact fun W => Tryd.strings_HasPrefix ⟨r.toArray⟩ ⟨u.toArray⟩ W
  generalize u.isPrefixOf r = t at *
  go_enter Tryd.func38, Tryd.ntmps38
  go_wp2_with (go_at_call 39; refine (HP.out _).mono ?_; rintro e w1 ⟨rfl, rfl⟩)
  go_ret
  exact ⟨rfl, rfl⟩

set_option maxHeartbeats 1000000 in
theorem idxHead_any (v : Value) (ws : List ByteArray) (b : Nat) (r : List UInt8) (w : World) (hv : SlR w v (ws.map Value.string)) (hb : w.cell? ⟨b, 0, none⟩ = some (.string ⟨r.toArray⟩)) :
    Calls Tryd.prog 37 #[v, .func (.func 38) #[] #[.pointer (some ⟨b, 0, none⟩)]] w fun e w' => e = .returned (.int .i64 (fndI (fnd ws r))) ∧ w = w' := by
  obtain ⟨a, n, c, rfl, hnl, hnc, hcm, hcell⟩ := SlR.opened ⟨#[]⟩ hv
  unfold maxLen at hcm
  have hn9 : n ≤ 9223372036854775807 := by omega
  have HN := Lib.hid hnl
  have HC := Lib.hid hcell
  have HB : Hid (∀ u : List UInt8, Calls Tryd.prog 38 #[.string ⟨u.toArray⟩, .pointer (some ⟨b, 0, none⟩)] w fun e w' => e = .returned (.bool (u.isPrefixOf r)) ∧ w = w') := by
    show ∀ u : List UInt8, _
    exact fun u => isHead_any u b r w hb
  have HS : Hid (∀ k, k < n → pre ws r k = true → (∀ j, j < k → pre ws r j = false) → fnd ws r = some k) := by
    show ∀ k, _
    intro k h1 h2 h3
    exact fnd_some (by rw [hnl]; exact h1) h2 h3
  have HE : Hid ((∀ j, j < n → pre ws r j = false) → fnd ws r = none) := by
    show _ → _
    intro h
    exact fnd_none (fun j hj => h j (by rw [← hnl]; exact hj))
  clear hnl hcell hcm hnc hv hb
  go_enter Tryd.func37, Tryd.ntmps37
  go_wp2
  go_loop [8] (fun i => ∃ k : Nat, k ≤ n ∧ i = .int .i64 (k : Int) ∧ Hid (∀ j, j < k → pre ws r j = false)) (fun i => n - (intOf i).toNat)
  case atStart => exact ⟨0, Nat.zero_le _, rfl, Lib.hid (fun j hj => by omega)⟩
  case round =>
    obtain ⟨k, hk, rfl, ha⟩ := hrel
    by_cases hlt : k < n
    · obtain ⟨b', off, rfl, hc, hbl⟩ := HC.out k hlt
      rw [List.getD_eq_getElem?_getD, wbx_eq] at hc
      have hp : (wbx ws k).isPrefixOf r = pre ws r k := rfl
      have hcall := HB.out (wbx ws k)
      rw [hp] at hcall
      generalize wbx ws k = u at *
      clear hp
      cases hb : pre ws r k
      · rw [hb] at hcall
        have HCA := Lib.hid hcall
        have HBB := Lib.hid hb
        clear hb hcall
        go_wp2_with (go_at_call 38; refine HCA.out.mono ?_; rintro e w1 ⟨rfl, rfl⟩)
        go_round
        case rel => exact ⟨k + 1, by omega, by go_num, Lib.hid (fun j hj => by
          by_cases h : j = k
          · rw [h]; exact HBB.out
          · exact ha.out j (by omega))⟩
        case measure => simp [intOf]; omega
      · rw [hb] at hcall
        have HCA := Lib.hid hcall
        have HR := Lib.hid (HS.out k hlt hb ha.out)
        clear hb hcall
        go_wp2_with (go_at_call 38; refine HCA.out.mono ?_; rintro e w1 ⟨rfl, rfl⟩)
        go_ret
        exact ⟨ret_int (by rw [HR.out]; rfl), rfl⟩
    · obtain rfl : n = k := by omega
      have HR := Lib.hid (HE.out ha.out)
      go_wp2
      go_ret
      exact ⟨ret_int (by rw [HR.out]; rfl), rfl⟩

end Go.Proofs.YtmconcfgldiceaaDoor
