/- The contracts of WordsOf, on both sides. -/
import Derived.Test.YtmhffnbneaggiaaWrs
import Derived.Test.YtmhffnbneaggiaaHrs
import Derived.Test.YtmhffnbneaggiaaHrc
namespace Go.Proofs.Ytmhffnbneaggiaa
set_option linter.unusedSimpArgs false
set_option linter.unusedVariables false
open Go.RowKit

def out_WordsOf (xs : List Int) : List ByteArray × Bool := if validC xs then (wordsL xs, true) else ([], false)
theorem len_WordsOf (xs : List Int) (_ : ∀ x ∈ xs, I64 x) (hl : xs.length ≤ 1048576) : (out_WordsOf xs).1.length ≤ 1048576 := by
  unfold out_WordsOf
  split
  · rw [wordsL_length]; exact hl
  · exact Nat.zero_le _
theorem outWO_no {xs : List Int} (h : validC xs = false) : out_WordsOf xs = ([], false) := by unfold out_WordsOf; rw [h]; rfl
theorem outWO_yes {xs : List Int} (h : validC xs = true) : out_WordsOf xs = (wordsL xs, true) := by unfold out_WordsOf; rw [h]; rfl

set_option maxHeartbeats 1000000 in
theorem impl_WordsOf (w : World) (v : Value) (xs : List Int) (hv : SlR w v (xs.map (Value.int .i64))) (_ : ∀ x ∈ xs, I64 x) (_ : xs.length ≤ 1048576) :
    Calls Try.prog 27 #[.agg #[v]] w (RetSl w 9 (out_WordsOf xs).1.length ((out_WordsOf xs).1.map Value.string) (fun v => .tuple #[v, .bool (out_WordsOf xs).2])) := by
  have hb0 : Below w.heap.size w (w.alloc (.cells #[v] 24)) := by go_grown
  have hv1 := hv.below hb0
  have hc : (w.alloc (.cells #[v] 24)).cell? ⟨w.heap.size, 0, none⟩ = some v := by simp
  have HB := Lib.hid hb0
  have HC := Lib.hid hc
  clear hb0 hc
  generalize ht : validC xs = t
  have HT := Lib.hid ht
  cases t
  · rw [outWO_no ht]
    clear ht
    go_enter Try.func27, Try.ntmps27
    go_wp2_with (go_at_call 63; refine (implValidCode_any _ xs _ hv1).mono ?_; rw [HT.out]; rintro e w1 ⟨rfl, hb⟩)
    go_ret2
    exact ⟨none, 0, rfl, World.ownsRow_nil _ _ _ _, HB.out.trans (hb.mono (by simp))⟩
  · rw [outWO_yes ht]
    dsimp only
    rw [wordsL_length]
    obtain ⟨ws, hws⟩ : ∃ ws, ws = wordsL xs := ⟨_, rfl⟩
    have HW : Hid (∀ W, SlR W v (xs.map (Value.int .i64)) → Calls Try.prog 65 #[.agg #[v]] W (RetSl W 9 xs.length (ws.map Value.string) id)) := by
      show ∀ W, _
      intro W hW
      rw [hws]
      exact words_any v xs W hW ht
    rw [← hws]
    clear hws ht
    go_enter Try.func27, Try.ntmps27
    go_wp2_with (first | (go_at_call 65; refine (HW.out _ hv2).mono ?_; rintro e w2 ⟨a2, c2, rfl, ho2, hb2⟩) | (go_at_call 63; refine (implValidCode_any _ xs _ hv1).mono ?_; rw [HT.out]; rintro e w1 ⟨rfl, hb⟩; have hv2 := hv1.below hb; have hc1 := cell_step HC.out hb))
    go_ret2
    have hb3 := HB.out.trans (hb.mono (by simp))
    exact RetSl.mk (f := fun v => .tuple #[v, .bool true]) (ownsRow_base ho2 hb3.size) (hb3.trans (hb2.mono hb3.size))

set_option maxHeartbeats 1000000 in
theorem spec_WordsOf (w : World) (v : Value) (xs : List Int) (hv : SlR w v (xs.map (Value.int .i64))) (_ : ∀ x ∈ xs, I64 x) (_ : xs.length ≤ 1048576) :
    Calls Try.prog 26 #[.agg #[v]] w (RetRd w (out_WordsOf xs).1.length ((out_WordsOf xs).1.map Value.string) (fun v => .tuple #[v, .bool (out_WordsOf xs).2])) := by
  have hb0 : Below w.heap.size w (w.alloc (.cells #[v] 24)) := by go_grown
  have hv1 := hv.below hb0
  have hc : (w.alloc (.cells #[v] 24)).cell? ⟨w.heap.size, 0, none⟩ = some v := by simp
  have HB := Lib.hid hb0
  have HC := Lib.hid hc
  clear hb0 hc
  generalize ht : validC xs = t
  have HT := Lib.hid ht
  cases t
  · rw [outWO_no ht]
    clear ht
    go_enter Try.func26, Try.ntmps26
    go_wp2_with (go_at_call 61; refine (l04Is_any _ _ xs _ HC.out hv1).mono ?_; rw [HT.out]; rintro e w1 ⟨rfl, hq⟩)
    go_ret2
    exact ⟨none, 0, rfl, SlR.nil _, HB.out.trans (hq.below _)⟩
  · rw [outWO_yes ht]
    dsimp only
    rw [wordsL_length]
    obtain ⟨ws, hws⟩ : ∃ ws, ws = wordsL xs := ⟨_, rfl⟩
    have HW : Hid (∀ W g, W.cell? ⟨g, 0, none⟩ = some v → SlR W v (xs.map (Value.int .i64)) → Calls Try.prog 69 #[.pointer (some ⟨g, 0, none⟩)] W (RetSl W 9 xs.length (ws.map Value.string) id)) := by
      show ∀ W g, _
      intro W g hW hW2
      rw [hws]
      exact l04Words_any g v xs W hW hW2 ht
    rw [← hws]
    clear hws ht
    go_enter Try.func26, Try.ntmps26
    go_wp2_with (first | (go_at_call 69; refine (HW.out _ _ hc1 hv2).mono ?_; rintro e w2 ⟨a2, c2, rfl, ho2, hb2⟩) | (go_at_call 61; refine (l04Is_any _ _ xs _ HC.out hv1).mono ?_; rw [HT.out]; rintro e w1 ⟨rfl, hq⟩; have hv2 := hv1.below hq.keep; have hc1 := cell_step HC.out hq.keep))
    go_ret2
    have hb3 := HB.out.trans (hq.below _)
    exact RetRd.mk (f := fun v => .tuple #[v, .bool true]) (SlR.own ho2) (hb3.trans (hb2.mono hb3.size))

end Go.Proofs.Ytmhffnbneaggiaa
