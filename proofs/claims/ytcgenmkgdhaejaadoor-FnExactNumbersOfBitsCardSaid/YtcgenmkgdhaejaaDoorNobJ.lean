/- Numbers read back from their bits: both sides' contracts. -/
import Derived.Test.YtcgenmkgdhaejaaDoorNobi
import Derived.Test.YtcgenmkgdhaejaaDoorNobs
namespace Go.Proofs.YtcgenmkgdhaejaaDoor
set_option linter.unusedSimpArgs false
set_option linter.unusedVariables false
open Go.RowKit

set_option maxHeartbeats 1000000 in
theorem impl_NumbersOfBits (w : World) (kind : Int) (_ : I64 kind) (k : Int) (_ : I64 k) (s : ByteArray) (_ : s.size ≤ 9223372036854775807) (hsl : s.size ≤ 1048576) :
    Calls Tryd.prog 8 #[.int .i64 kind, .int .i64 k, .string s] w (RetSl w 2 (out_NumbersOfBits kind k s).1.length ((out_NumbersOfBits kind k s).1.map (Value.int .i64)) (fun v => .tuple #[v, .bool (out_NumbersOfBits kind k s).2])) := by
  obtain ⟨l, hl⟩ : ∃ l, l = s.data.toList := ⟨_, rfl⟩
  obtain rfl : s = ⟨l.toArray⟩ := by rw [hl]
  have hsz : (ByteArray.mk l.toArray).size = l.length := by
    show l.toArray.size = _
    simp
  have hll : l.length ≤ 1048576 := by omega
  clear hsz
  have hsd : (ByteArray.mk l.toArray).data.toList = l := by simp
  clear hl hsl
  cases h1 : inB kind 0 4
  · rw [outNB_no1 h1]
    have H1 := Lib.hid h1
    clear h1 hsd
    go_enter Tryd.func8, Tryd.ntmps8
    go_wp2_with fail
    refine (within_any _ _ _ _).mono ?_
    rw [H1.out]
    rintro e w' ⟨rfl, rfl⟩
    go_wp2
    go_ret2
    exact ⟨none, 0, rfl, World.ownsRow_nil _ _ _ _, Below.refl _ _⟩
  cases h2 : inB k 0 20
  · rw [outNB_no2 h2]
    have H1 := Lib.hid h1
    have H2 := Lib.hid h2
    clear h1 h2 hsd
    go_enter Tryd.func8, Tryd.ntmps8
    go_wp2_with fail
    refine (within_any _ _ _ _).mono ?_
    rw [H1.out]
    rintro e w' ⟨rfl, rfl⟩
    go_wp2_with fail
    refine (within_any _ _ _ _).mono ?_
    rw [H2.out]
    rintro e w' ⟨rfl, rfl⟩
    go_wp2
    go_ret2
    exact ⟨none, 0, rfl, World.ownsRow_nil _ _ _ _, Below.refl _ _⟩
  cases h3 : bitsOk l
  · rw [outNB_no3 (by rw [hsd]; exact h3)]
    have H1 := Lib.hid h1
    have H2 := Lib.hid h2
    have H3 := Lib.hid h3
    clear h1 h2 h3 hsd
    go_enter Tryd.func8, Tryd.ntmps8
    go_wp2_with fail
    refine (within_any _ _ _ _).mono ?_
    rw [H1.out]
    rintro e w' ⟨rfl, rfl⟩
    go_wp2_with fail
    refine (within_any _ _ _ _).mono ?_
    rw [H2.out]
    rintro e w' ⟨rfl, rfl⟩
    go_wp2_with (go_at_call 29; refine (isBits_any l _ hll).mono ?_; rw [H3.out]; rintro e w2 ⟨rfl, hb2⟩)
    go_ret2
    exact ⟨none, 0, rfl, World.ownsRow_nil _ _ _ _, hb2⟩
  rw [outNB_yes h1 h2 (by rw [hsd]; exact h3), hsd]
  exact implNumbers_yes w kind k h1 h2 l h3

set_option maxHeartbeats 1000000 in
theorem spec_NumbersOfBits (w : World) (kind : Int) (_ : I64 kind) (k : Int) (_ : I64 k) (s : ByteArray) (_ : s.size ≤ 9223372036854775807) (hsl : s.size ≤ 1048576) :
    Calls Tryd.prog 7 #[.int .i64 kind, .int .i64 k, .string s] w (RetRd w (out_NumbersOfBits kind k s).1.length ((out_NumbersOfBits kind k s).1.map (Value.int .i64)) (fun v => .tuple #[v, .bool (out_NumbersOfBits kind k s).2])) := by
  refine Calls.mono (R := RetSl w 2 (out_NumbersOfBits kind k s).1.length ((out_NumbersOfBits kind k s).1.map (Value.int .i64)) (fun v => .tuple #[v, .bool (out_NumbersOfBits kind k s).2])) ?_ (fun _ _ h => h.rd)
  obtain ⟨l, hl⟩ : ∃ l, l = s.data.toList := ⟨_, rfl⟩
  obtain rfl : s = ⟨l.toArray⟩ := by rw [hl]
  have hsz : (ByteArray.mk l.toArray).size = l.length := by
    show l.toArray.size = _
    simp
  have hll : l.length ≤ 1048576 := by omega
  clear hsz
  have hsd : (ByteArray.mk l.toArray).data.toList = l := by simp
  clear hl hsl
  cases h1 : inB kind 0 4
  · rw [outNB_no1 h1]
    have H1 := Lib.hid h1
    clear h1 hsd
    go_enter Tryd.func7, Tryd.ntmps7
    go_wp2_with fail
    refine (l00In_any _ _ _ _).mono ?_
    rw [H1.out]
    rintro e w' ⟨rfl, rfl⟩
    go_wp2
    go_ret2
    exact ⟨none, 0, rfl, World.ownsRow_nil _ _ _ _, Below.refl _ _⟩
  cases h2 : inB k 0 20
  · rw [outNB_no2 h2]
    have H1 := Lib.hid h1
    have H2 := Lib.hid h2
    clear h1 h2 hsd
    go_enter Tryd.func7, Tryd.ntmps7
    go_wp2_with fail
    refine (l00In_any _ _ _ _).mono ?_
    rw [H1.out]
    rintro e w' ⟨rfl, rfl⟩
    go_wp2_with fail
    refine (l00In_any _ _ _ _).mono ?_
    rw [H2.out]
    rintro e w' ⟨rfl, rfl⟩
    go_wp2
    go_ret2
    exact ⟨none, 0, rfl, World.ownsRow_nil _ _ _ _, Below.refl _ _⟩
  cases h3 : bitsOk l
  · rw [outNB_no3 (by rw [hsd]; exact h3)]
    have H1 := Lib.hid h1
    have H2 := Lib.hid h2
    have H3 := Lib.hid h3
    clear h1 h2 h3 hsd
    go_enter Tryd.func7, Tryd.ntmps7
    go_wp2_with fail
    refine (l00In_any _ _ _ _).mono ?_
    rw [H1.out]
    rintro e w' ⟨rfl, rfl⟩
    go_wp2_with fail
    refine (l00In_any _ _ _ _).mono ?_
    rw [H2.out]
    rintro e w' ⟨rfl, rfl⟩
    go_wp2_with (go_at_call 24; refine (l04Text_any l _ hll).mono ?_; rw [H3.out]; rintro e w2 ⟨rfl, rfl⟩)
    go_ret2
    exact ⟨none, 0, rfl, World.ownsRow_nil _ _ _ _, Below.refl _ _⟩
  rw [outNB_yes h1 h2 (by rw [hsd]; exact h3), hsd]
  exact specNumbers_yes w kind k h1 h2 l h3

end Go.Proofs.YtcgenmkgdhaejaaDoor
