/- Words of which none is the beginning of another: what the program keeps of them. -/
import Derived.Test.YtjobgobeiiakgaaDoorDlt
import Derived.Maps.OwnSet
import Derived.Maps.Views
import Derived.IntWalk
namespace Go.Proofs.YtjobgobeiiakgaaDoor
set_option linter.unusedSimpArgs false
set_option linter.unusedVariables false
open Go.RowKit
/-- One word is right. -/
def wOkAt (ws : List ByteArray) (j : Nat) : Bool := bitsOk (wbx ws j) && decide (1 ≤ (wbx ws j).length) && decide ((wbx ws j).length ≤ 32)
def wsOk (ws : List ByteArray) : Bool := (List.range ws.length).all (wOkAt ws) && (decide (1 ≤ ws.length) && decide (ws.length ≤ 16))
theorem wsOk_end {ws : List ByteArray} {n : Nat} (hn : ws.length = n) (h : ∀ j, j < n → wOkAt ws j = true) : wsOk ws = (decide (1 ≤ n) && decide (n ≤ 16)) := by
  unfold wsOk
  rw [hn, List.all_eq_true.2 (fun j hj => h j (by simpa using hj)), Bool.true_and]
theorem wsOk_bad {ws : List ByteArray} {n : Nat} (hn : ws.length = n) {j : Nat} (hj : j < n) (h : wOkAt ws j = false) : wsOk ws = false := by
  unfold wsOk
  rw [List.all_eq_false.2 ⟨j, by simpa [hn] using hj, by simp [h]⟩, Bool.false_and]
theorem wsOk_parts {ws : List ByteArray} (h : wsOk ws = true) : 1 ≤ ws.length ∧ ws.length ≤ 16 ∧ ∀ j, j < ws.length → wOkAt ws j = true := by
  unfold wsOk at h
  simp only [Bool.and_eq_true, decide_eq_true_eq, List.all_eq_true, List.mem_range] at h
  exact ⟨h.2.1, h.2.2, h.1⟩
theorem wOk_len {ws : List ByteArray} {j : Nat} (h : wOkAt ws j = true) : 1 ≤ (wbx ws j).length ∧ (wbx ws j).length ≤ 32 := by
  unfold wOkAt at h
  simp only [Bool.and_eq_true, decide_eq_true_eq] at h
  exact ⟨h.1.2, h.2⟩
/-- A word is the beginning of another one. -/
def pfx (ws : List ByteArray) (i k : Nat) : Bool := !decide (i = k) && (wbx ws i).isPrefixOf (wbx ws k)
def anyP (ws : List ByteArray) : Bool := (List.range ws.length).any fun i => (List.range ws.length).any fun k => pfx ws i k
theorem anyP_yes {ws : List ByteArray} {n i k : Nat} (hn : ws.length = n) (hi : i < n) (hk : k < n) (h : pfx ws i k = true) : anyP ws = true := by
  unfold anyP
  rw [List.any_eq_true]
  exact ⟨i, by simpa [hn] using hi, List.any_eq_true.2 ⟨k, by simpa [hn] using hk, h⟩⟩
theorem anyP_no {ws : List ByteArray} {n : Nat} (hn : ws.length = n) (h : ∀ i, i < n → ∀ k, k < n → pfx ws i k = false) : anyP ws = false := by
  unfold anyP
  rw [List.any_eq_false]
  intro i hi
  rw [Bool.not_eq_true, List.any_eq_false]
  intro k hk
  rw [h i (by simpa [hn] using hi) k (by simpa [hn] using hk)]
  exact Bool.false_ne_true
def out_IsPrefixFree (ws : List ByteArray) : Bool × Bool := if wsOk ws then (!anyP ws, true) else (false, false)

set_option maxHeartbeats 1000000 in
theorem areWords_any (v : Value) (ws : List ByteArray) (w : World) (hv : SlR w v (ws.map Value.string)) (hl : ∀ j, (wbx ws j).length ≤ 1048576) :
    Calls Tryd.prog 27 #[v] w fun e w' => e = .returned (.bool (wsOk ws)) ∧ Below w.heap.size w w' := by
  obtain ⟨a, n, c, rfl, hnl, hnc, hcm, hcell⟩ := SlR.opened ⟨#[]⟩ hv
  unfold maxLen at hcm
  have hn9 : n ≤ 9223372036854775807 := by omega
  have HL := Lib.hid hl
  have HC := Lib.hid hcell
  have HBAD := Lib.hid (fun j hj => wsOk_bad (ws := ws) (n := n) hnl (j := j) hj)
  have HEND := Lib.hid (wsOk_end (ws := ws) (n := n) hnl)
  clear hnl hcell hcm hnc hv hl
  go_enter Tryd.func27, Tryd.ntmps27
  go_wp2
  go_loopw [7] (fun i wr => ∃ k : Nat, k ≤ n ∧ i = .int .i64 (k : Int) ∧ Hid (∀ j, j < k → wOkAt ws j = true) ∧ Below w.heap.size w wr) (fun i _ => n - (intOf i).toNat)
  case atStart => exact ⟨0, Nat.zero_le _, rfl, Lib.hid (fun j hj => by omega), Below.refl _ _⟩
  case round =>
    obtain ⟨k, hk, rfl, ha, hb⟩ := hrel
    by_cases hlt : k < n
    · obtain ⟨b', off, rfl, hc0, hbl⟩ := HC.out k hlt
      rw [List.getD_eq_getElem?_getD, wbx_eq] at hc0
      have hc := cell_step hc0 hb
      have hcall := isBits_any (wbx ws k) wr (HL.out k)
      have HO : Hid (wOkAt ws k = (bitsOk (wbx ws k) && decide (1 ≤ (wbx ws k).length) && decide ((wbx ws k).length ≤ 32))) := Lib.hid rfl
      clear hc0
      generalize wbx ws k = u at *
      cases hbk : bitsOk u
      · have HRES := Lib.hid (HBAD.out k hlt (by rw [HO.out, hbk]; rfl))
        rw [hbk] at hcall
        have HCA := Lib.hid hcall
        clear hbk hcall
        go_wp2_with (go_at_call 38; refine HCA.out.mono ?_; rintro e w1 ⟨rfl, hb1⟩)
        go_ret
        exact ⟨ret_bool HRES.out.symm, hb.trans (hb1.mono hb.size)⟩
      · rw [hbk] at hcall
        have HCA := Lib.hid hcall
        clear hcall
        by_cases h1 : 1 ≤ u.length
        · have k1 : ¬ (u.length : Int) < 1 := by omega
          by_cases h2 : u.length ≤ 32
          · have k2 : ¬ (32 : Int) < (u.length : Int) := by omega
            have HRES : Hid (wOkAt ws k = true) := by show _ = _; rw [HO.out, hbk, decide_eq_true h1, decide_eq_true h2]; rfl
            clear hbk
            go_wp2_with (go_at_call 38; refine HCA.out.mono ?_; rintro e w1 ⟨rfl, hb1⟩)
            go_roundw
            case rel => exact ⟨k + 1, by omega, by go_num, Lib.hid (fun j hj => by
              by_cases h : j = k
              · rw [h]; exact HRES.out
              · exact ha.out j (by omega)), hb.trans (hb1.mono hb.size)⟩
            case measure => simp [intOf]; omega
          · have k2 : (32 : Int) < (u.length : Int) := by omega
            have HRES := Lib.hid (HBAD.out k hlt (by rw [HO.out, decide_eq_false h2, Bool.and_false]))
            clear hbk
            go_wp2_with (go_at_call 38; refine HCA.out.mono ?_; rintro e w1 ⟨rfl, hb1⟩)
            go_ret
            exact ⟨ret_bool HRES.out.symm, hb.trans (hb1.mono hb.size)⟩
        · have k1 : (u.length : Int) < 1 := by omega
          have HRES := Lib.hid (HBAD.out k hlt (by rw [HO.out, decide_eq_false h1, Bool.and_false, Bool.false_and]))
          clear hbk
          go_wp2_with (go_at_call 38; refine HCA.out.mono ?_; rintro e w1 ⟨rfl, hb1⟩)
          go_ret
          exact ⟨ret_bool HRES.out.symm, hb.trans (hb1.mono hb.size)⟩
    · obtain rfl : n = k := by omega
      have HRES := Lib.hid (HEND.out ha.out)
      by_cases h1 : 1 ≤ n
      · have k1 : (1 : Int) ≤ (n : Int) := by omega
        by_cases h2 : n ≤ 16
        · have k2 : (n : Int) ≤ 16 := by omega
          go_wp2
          go_ret
          exact ⟨ret_bool (by rw [HRES.out, decide_eq_true h1, decide_eq_true h2]; rfl), hb⟩
        · have k2 : ¬ (n : Int) ≤ 16 := by omega
          go_wp2
          go_ret
          exact ⟨ret_bool (by rw [HRES.out, decide_eq_false h2, Bool.and_false]), hb⟩
      · have k1 : ¬ (1 : Int) ≤ (n : Int) := by omega
        go_wp2
        go_ret
        exact ⟨ret_bool (by rw [HRES.out, decide_eq_false h1, Bool.false_and]), hb⟩

end Go.Proofs.YtjobgobeiiakgaaDoor
