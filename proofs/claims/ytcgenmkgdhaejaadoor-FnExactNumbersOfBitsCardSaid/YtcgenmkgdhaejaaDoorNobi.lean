/- Numbers read back from their bits: the program's contract. -/
import Derived.Test.YtcgenmkgdhaejaaDoorNob8
import Derived.Test.YtcgenmkgdhaejaaDoorNobE
import Derived.Test.YtcgenmkgdhaejaaDoorDlt
namespace Go.Proofs.YtcgenmkgdhaejaaDoor
set_option linter.unusedSimpArgs false
set_option linter.unusedVariables false
open Go.RowKit
theorem bits_mem {l : List UInt8} (h : bitsOk l = true) : ∀ c ∈ l, c = 48 ∨ c = 49 := by
  unfold bitsOk at h
  simp only [Bool.and_eq_true] at h
  intro c hc
  have := List.all_eq_true.1 h.2 c hc
  simpa [isBit] using this
theorem outNB_no1 {kind k : Int} {s : ByteArray} (h : inB kind 0 4 = false) : out_NumbersOfBits kind k s = ([], false) := by unfold out_NumbersOfBits; rw [h]; rfl
theorem outNB_no2 {kind k : Int} {s : ByteArray} (h : inB k 0 20 = false) : out_NumbersOfBits kind k s = ([], false) := by unfold out_NumbersOfBits; rw [h]; simp
theorem outNB_no3 {kind k : Int} {s : ByteArray} (h : bitsOk s.data.toList = false) : out_NumbersOfBits kind k s = ([], false) := by unfold out_NumbersOfBits; rw [h]; simp
theorem outNB_yes {kind k : Int} {s : ByteArray} (h1 : inB kind 0 4 = true) (h2 : inB k 0 20 = true) (h3 : bitsOk s.data.toList = true) : out_NumbersOfBits kind k s = ncR kind k s.data.toList := by unfold out_NumbersOfBits; rw [h1, h2, h3]; rfl
theorem len_NumbersOfBits (kind : Int) (_ : I64 kind) (k : Int) (_ : I64 k) (s : ByteArray) (_ : s.size ≤ 9223372036854775807) (hl : s.size ≤ 1048576) : (out_NumbersOfBits kind k s).1.length ≤ 1048576 := by
  unfold out_NumbersOfBits
  split
  · have := ncR_len kind k s.data.toList
    have h2 : s.data.toList.length = s.data.size := by simp
    have h3 : s.size = s.data.size := rfl
    omega
  · exact Nat.zero_le _
def strLen (v : Value) : Nat := match v with | .string s => s.size | _ => 0

set_option maxRecDepth 100000 in
set_option maxHeartbeats 4000000 in
theorem implNumbers_yes (w : World) (kind k : Int) (h1 : inB kind 0 4 = true) (h2 : inB k 0 20 = true) (l : List UInt8) (hbk : bitsOk l = true) :
    Calls Tryd.prog 8 #[.int .i64 kind, .int .i64 k, .string ⟨l.toArray⟩] w (RetSl w 2 (ncR kind k l).1.length ((ncR kind k l).1.map (Value.int .i64)) (fun v => .tuple #[v, .bool (ncR kind k l).2])) := by
  obtain ⟨i0, hi0, hz00, hz01, hz02⟩ := info_parts info_Int64S
  have hl5 := bits_len hbk
  have hmem := bits_mem hbk
  obtain ⟨a1, a2⟩ := inB_true h1
  obtain ⟨a3, a4⟩ := inB_true h2
  have hI : I64 kind := by unfold I64; omega
  have hI2 : I64 k := by unfold I64; omega
  obtain ⟨o, ho⟩ : ∃ o, o = ncR kind k l := ⟨_, rfl⟩
  rw [← ho]
  have HO := Lib.hid ho
  have HI1 := Lib.hid h1
  have HI2 := Lib.hid h2
  have HK := Lib.hid hbk
  have HG := Lib.hid (fun p W => guess_any kind k (by omega) (by omega) (by omega) (by omega) (l.drop p) W (by rw [List.length_drop]; omega) (fun c hc => hmem c (List.mem_of_mem_drop hc)))
  have HT := Lib.hid (fun n (hn : I64 n) W => numberText_any kind k n (by omega) (by omega) hI2 hn W)
  clear ho h1 h2 hbk a1 a2 a3 a4 hmem
  go_enter Tryd.func8, Tryd.ntmps8
  go_wp2_with fail
  refine (within_any _ _ _ _).mono ?_
  rw [HI1.out]
  rintro e w' ⟨rfl, rfl⟩
  go_wp2_with fail
  refine (within_any _ _ _ _).mono ?_
  rw [HI2.out]
  rintro e w' ⟨rfl, rfl⟩
  go_wp2_with (go_at_call 29; refine (isBits_any l _ (by omega)).mono ?_; rw [HK.out]; rintro e w2 ⟨rfl, hb0⟩)
  have c3 : (w2.alloc (.cells #[] 2)).ownsRow w.heap.size 2 1 (.slice (some ⟨w2.heap.size, 0, none⟩) 0 0) 0 [] := ownsRow_base (World.ownsRow_made w2 #[] 0 (Nat.le_refl _) (Nat.zero_le _) rfl) (by have := hb0.size; omega)
  have c4 : Below w.heap.size w (w2.alloc (.cells #[] 2)) := Below.alloc hb0 hb0.size _
  go_loopw [2, 8] (fun t' v' wr => ∃ n : Nat, t' = .string ⟨(l.drop (ncN kind k l n).1).toArray⟩ ∧ Hid (∀ j, j < n → ∃ v, stp kind k (l.drop (ncN kind k l j).1) = some v) ∧
      wr.ownsRow w.heap.size 2 1 v' (ncN kind k l n).2.length ((ncN kind k l n).2.map (Value.int .i64)) ∧ Below w.heap.size w wr) (fun t' _ _ => strLen t')
  case atStart => exact ⟨0, rfl, Lib.hid (fun j hj => by omega), c3, c4⟩
  case round =>
    clear c3 c4 hb0
    obtain ⟨n, rfl, hs, hL, hbw⟩ := hrel
    have hple := ncN_le (kind := kind) (k := k) (l := l) n
    have hge := ncN_ge n hs.out
    have hlen := ncN_len (kind := kind) (k := k) (l := l) n
    have hdl : (l.drop (ncN kind k l n).1).length = l.length - (ncN kind k l n).1 := List.length_drop
    have HEND := Lib.hid (ncR_end hs.out)
    have HBAD := Lib.hid (ncR_bad hs.out)
    have HSOME := Lib.hid (fun v => ncN_some (kind := kind) (k := k) (l := l) (n := n) (v := v))
    have HG1 := Lib.hid (fun W => HG.out (ncN kind k l n).1 W)
    have hlen5 : (ncN kind k l n).2.length ≤ 512 := by omega
    obtain ⟨r, hr⟩ : ∃ r, r = l.drop (ncN kind k l n).1 := ⟨_, rfl⟩
    rw [← hr] at hdl HBAD HSOME HG1 ⊢
    have HR := Lib.hid hr
    by_cases he : r = []
    · have hre : r.isEmpty = true := by rw [he]; rfl
      have hp : (ncN kind k l n).1 = l.length := by rw [he, List.length_nil] at hdl; omega
      have HRES := Lib.hid (HO.out.trans (HEND.out hp))
      clear hp hdl hr HEND HBAD HSOME HO hple hge hlen he
      go_wp2
      go_ret2
      rw [HRES.out]
      dsimp only
      obtain ⟨a', c', rfl⟩ := ownsRow_shape hL
      exact ⟨a', c', rfl, hL, hbw⟩
    · have hre := isE_false he
      have hpl : (ncN kind k l n).1 < l.length := by
        rcases Nat.lt_or_ge (ncN kind k l n).1 l.length with h | h
        · exact h
        · exact absurd (List.eq_nil_of_length_eq_zero (by rw [hdl]; omega)) he
      clear hr hge hlen he
      go_wp2_with fail
      refine (HG1.out _).mono ?_
      rintro e w1 ⟨v, hv, rfl, hq, hc⟩
      go_wp2_with fail
      refine (HT.out v hv _).mono ?_
      have hbw1 : Below w.heap.size w w1 := hbw.trans (hq.below _)
      have hL1 := ownsRow_below hL (hq.below _)
      clear hL hbw hq
      cases hok : (numT kind k v).2
      · have hf : stp kind k r = none := stp_none hc (fun h => by rw [hok] at h; exact absurd h.1 Bool.false_ne_true)
        have HRES := Lib.hid (HO.out.trans (HBAD.out hpl hf))
        clear hf hok hc
        rintro e w3 ⟨rfl, hb3⟩
        go_wp2
        go_ret2
        rw [HRES.out]
        exact ⟨none, 0, rfl, World.ownsRow_nil _ _ _ _, hbw1.trans (hb3.mono hbw1.size)⟩
      · have htx : (numT kind k v).1 = ⟨(txN kind k v).toArray⟩ := numT_tx kind k v
        have HHP : Hid (∀ W : World, Calls Tryd.prog 32 #[.string ⟨r.toArray⟩, .string ⟨(txN kind k v).toArray⟩] W fun e w' => e = .returned (.bool ((txN kind k v).isPrefixOf r)) ∧ W = w') := by
          show ∀ W : World, _
          exact fun W => (Tryd.strings_HasPrefix ⟨r.toArray⟩ ⟨(txN kind k v).toArray⟩ W).mono fun _ _ h => ⟨h.1, h.2.symm⟩
        have hup := txN_pos (kind := kind) (k := k) (v := v) hok
        cases hpr : (txN kind k v).isPrefixOf r
        · have hf : stp kind k r = none := stp_none hc (fun h => by have h2 := List.isPrefixOf_iff_prefix.2 h.2; rw [hpr] at h2; exact absurd h2 (by decide))
          have HRES := Lib.hid (HO.out.trans (HBAD.out hpl hf))
          rw [hpr] at HHP
          rw [htx]
          clear hf hok hc hpr htx HEND HBAD HSOME HO
          generalize txN kind k v = u at *
          rintro e w3 ⟨rfl, hb3⟩
          go_wp2_with (go_at_call 32; refine (HHP.out _).mono ?_; rintro e w4 ⟨rfl, rfl⟩)
          go_ret2
          rw [HRES.out]
          exact ⟨none, 0, rfl, World.ownsRow_nil _ _ _ _, hbw1.trans (hb3.mono hbw1.size)⟩
        · have hf : stp kind k r = some v := stp_some hc hok (List.isPrefixOf_iff_prefix.1 hpr)
          have hk3 := List.IsPrefix.length_le (List.isPrefixOf_iff_prefix.1 hpr)
          have HST := Lib.hid (HSOME.out v hf)
          have HS2 : Hid (∀ j, j < n + 1 → ∃ v, stp kind k (l.drop (ncN kind k l j).1) = some v) := by
            show ∀ j, _
            intro j hj
            by_cases hjn : j = n
            · rw [hjn, ← HR.out]; exact ⟨v, hf⟩
            · exact hs.out j (by omega)
          have HDR : Hid (r.drop (txN kind k v).length = l.drop ((ncN kind k l n).1 + (txN kind k v).length)) := by
            show _ = _
            rw [HR.out, List.drop_drop]
          rw [hpr] at HHP
          rw [htx]
          clear hf hok hc hpr htx HEND HBAD HSOME HO
          generalize txN kind k v = u at *
          have hcut := run_cut_d r u.length hk3
          obtain ⟨r2, hr2⟩ : ∃ r2, r2 = r.drop u.length := ⟨_, rfl⟩
          rw [← hr2] at hcut HDR
          have hr2l : r2.length < r.length := by rw [hr2, List.length_drop]; omega
          clear hr2
          rintro e w3 ⟨rfl, hb3⟩
          have hbw := hbw1.trans (hb3.mono hbw1.size)
          have hL := ownsRow_below hL1 hb3
          clear hL1 hbw1
          go_wp2_with (first
            | (go_at_call 32; refine (HHP.out _).mono ?_; rintro e w4 ⟨rfl, rfl⟩)
            | (at_builtin; refine wpList_append_own _ rfl _ _ 22 rfl w.heap.size 2 i0 (.int .i64 0) 1 8 Tryd.underlying22 hi0 hz00 hz01 hz02 rfl (by decide) u8 _ _ rfl (hL.alloc _) ⟨(World.heap w3).size, 0, none⟩ 1 1 [.int .i64 v] rfl rfl (cell_one_new _ _ _) (one_oneCell rfl) (by unfold maxLen; omega) (by omega) (by simp only [World.size_alloc]; have := hbw.size; omega) ?_; intro v1 w5 hL1 hgx _; have hb1 := app_below hbw (by have := hbw.size; omega) _ hgx hL (by omega)))
          go_roundw
          case rel =>
            refine ⟨n + 1, ?_, HS2, ?_, hb1⟩
            · rw [HST.out, ← HDR.out]
            · rw [HST.out]
              dsimp only
              rw [List.length_append, List.map_append]
              exact hL1
          case measure => simp [strLen]; exact hr2l

end Go.Proofs.YtcgenmkgdhaejaaDoor
