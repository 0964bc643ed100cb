/- Numbers read back from their bits: the reference's contract. -/
import Derived.Test.YtcgenmkgdhaejaaDoorNobS
import Derived.Test.YtcgenmkgdhaejaaDoorNobE
import Derived.Test.YtcgenmkgdhaejaaDoorDlt
namespace Go.Proofs.YtcgenmkgdhaejaaDoor
set_option linter.unusedSimpArgs false
set_option linter.unusedVariables false
open Go.RowKit

set_option maxRecDepth 100000 in
set_option maxHeartbeats 4000000 in
theorem specNumbers_yes (w : World) (kind k : Int) (h1 : inB kind 0 4 = true) (h2 : inB k 0 20 = true) (l : List UInt8) (hbk : bitsOk l = true) :
    Calls Tryd.prog 7 #[.int .i64 kind, .int .i64 k, .string ⟨l.toArray⟩] w (RetSl w 2 (ncR kind k l).1.length ((ncR kind k l).1.map (Value.int .i64)) (fun v => .tuple #[v, .bool (ncR kind k l).2])) := by
  obtain ⟨i0, hi0, hz00, hz01, hz02⟩ := info_parts info_Int64S
  have hl5 := bits_len hbk
  obtain ⟨a1, a2⟩ := inB_true h1
  obtain ⟨a3, a4⟩ := inB_true h2
  obtain ⟨o, ho⟩ : ∃ o, o = ncR kind k l := ⟨_, rfl⟩
  rw [← ho]
  have HO := Lib.hid ho
  have HI1 := Lib.hid h1
  have HI2 := Lib.hid h2
  have HK := Lib.hid hbk
  have HG := Lib.hid (fun p W => l04Guess_any kind k (by omega) (by omega) (by omega) (by omega) l p W hl5)
  have HT := Lib.hid (fun n W => l04Numbered_any kind k n (by omega) (by omega) h2 W)
  clear ho h1 h2 hbk a1 a2 a3 a4
  go_enter Tryd.func7, Tryd.ntmps7
  go_wp2_with fail
  refine (l00In_any _ _ _ _).mono ?_
  rw [HI1.out]
  rintro e w' ⟨rfl, rfl⟩
  go_wp2_with fail
  refine (l00In_any _ _ _ _).mono ?_
  rw [HI2.out]
  rintro e w' ⟨rfl, rfl⟩
  go_wp2_with (go_at_call 24; refine (l04Text_any l _ (by omega)).mono ?_; rw [HK.out]; rintro e w2 ⟨rfl, rfl⟩)
  have c3 : (w.alloc (.cells #[] 2)).ownsRow w.heap.size 2 1 (.slice (some ⟨w.heap.size, 0, none⟩) 0 0) 0 [] := World.ownsRow_made w #[] 0 (Nat.le_refl _) (Nat.zero_le _) rfl
  have c4 : Below w.heap.size w (w.alloc (.cells #[] 2)) := Below.alloc (Below.refl _ _) (Nat.le_refl _) _
  go_loopw [8, 9] (fun v' at' wr => ∃ n p : Nat, at' = .int .i64 (p : Int) ∧ p = (ncN kind k l n).1 ∧ Hid (∀ j, j < n → ∃ v, stp kind k (l.drop (ncN kind k l j).1) = some v) ∧
      wr.ownsRow w.heap.size 2 1 v' (ncN kind k l n).2.length ((ncN kind k l n).2.map (Value.int .i64)) ∧ Below w.heap.size w wr) (fun _ at' _ => l.length - (intOf at').toNat)
  case atStart => exact ⟨0, 0, rfl, rfl, Lib.hid (fun j hj => by omega), c3, c4⟩
  case round =>
    clear c3 c4
    obtain ⟨n, p, rfl, hp, hs, hL, hbw⟩ := hrel
    have hple := ncN_le (kind := kind) (k := k) (l := l) n
    have hge := ncN_ge n hs.out
    have hlen := ncN_len (kind := kind) (k := k) (l := l) n
    have HEND := Lib.hid (ncR_end hs.out)
    have HBAD := Lib.hid (ncR_bad hs.out)
    have HSOME := Lib.hid (fun v => ncN_some (kind := kind) (k := k) (l := l) (n := n) (v := v))
    have hlen5 : (ncN kind k l n).2.length ≤ 512 := by omega
    rw [← hp] at hple hge HEND HBAD HSOME
    have HP := Lib.hid hp
    clear hp hlen hge
    by_cases hpl : p < l.length
    · have hpi : (p : Int) < (l.length : Int) := by omega
      have HGP := Lib.hid (fun W => HG.out p W hple)
      go_wp2_with fail
      refine (HGP.out _).mono ?_
      rintro e w1 ⟨v, rfl, rfl, hc⟩
      go_wp2_with fail
      refine (HT.out v _).mono ?_
      cases hok : (numT kind k v).2
      · have hf : stp kind k (l.drop p) = none := stp_none hc (fun h => by rw [hok] at h; exact absurd h.1 Bool.false_ne_true)
        have HRES := Lib.hid (HO.out.trans (HBAD.out hpl hf))
        clear hf hok hc
        rintro e w2 ⟨rfl, hb2⟩
        go_wp2
        go_ret2
        rw [HRES.out]
        exact ⟨none, 0, rfl, World.ownsRow_nil _ _ _ _, hbw.trans (hb2.mono hbw.size)⟩
      · have htx : (numT kind k v).1 = ⟨(txN kind k v).toArray⟩ := numT_tx kind k v
        have hul := txN_le kind k v
        have hup := fun h => txN_pos (kind := kind) (k := k) (v := v) h
        have hup := hup hok
        have HBG := Lib.hid (fun W => begins_any l p (txN kind k v) W hple (by omega) (by omega))
        cases hpr : (txN kind k v).isPrefixOf (l.drop p)
        · have hf : stp kind k (l.drop p) = none := stp_none hc (fun h => by rw [List.isPrefixOf_iff_prefix.2 h.2] at hpr; exact absurd hpr (by decide))
          have HRES := Lib.hid (HO.out.trans (HBAD.out hpl hf))
          rw [hpr] at HBG
          rw [htx]
          clear hf hok hc hpr htx HEND HBAD HSOME HO
          generalize txN kind k v = u at *
          rintro e w2 ⟨rfl, hb2⟩
          go_wp2_with (go_at_call 27; refine (HBG.out _).mono ?_; rintro e w3 ⟨rfl, rfl⟩)
          go_ret2
          rw [HRES.out]
          exact ⟨none, 0, rfl, World.ownsRow_nil _ _ _ _, hbw.trans (hb2.mono hbw.size)⟩
        · have hf : stp kind k (l.drop p) = some v := stp_some hc hok (List.isPrefixOf_iff_prefix.1 hpr)
          have hk3 := List.IsPrefix.length_le (List.isPrefixOf_iff_prefix.1 hpr)
          rw [List.length_drop] at hk3
          have HST := Lib.hid (HSOME.out v hf)
          have HS2 : Hid (∀ j, j < n + 1 → ∃ v, stp kind k (l.drop (ncN kind k l j).1) = some v) := by
            show ∀ j, _
            intro j hj
            by_cases hjn : j = n
            · rw [hjn, ← HP.out]; exact ⟨v, hf⟩
            · exact hs.out j (by omega)
          rw [hpr] at HBG
          rw [htx]
          clear hf hok hc hpr htx HEND HBAD HSOME HO
          have e1 : IntKind.i64.wrap ((p : Int) + ((txN kind k v).length : Int)) = ((p + (txN kind k v).length : Nat) : Int) := by rw [Int.natCast_add]; exact IntWalk.i64_in _ (by omega)
          generalize txN kind k v = u at *
          rintro e w2 ⟨rfl, hb2⟩
          have hbw := hbw.trans (hb2.mono hbw.size)
          have hL := ownsRow_below hL hb2
          go_wp2_with (first
            | (go_at_call 27; refine (HBG.out _).mono ?_; rintro e w3 ⟨rfl, rfl⟩)
            | (at_builtin; refine wpList_append_own _ rfl _ _ 22 rfl w.heap.size 2 i0 (.int .i64 0) 1 8 Tryd.underlying22 hi0 hz00 hz01 hz02 rfl (by decide) u8 _ _ rfl (hL.alloc _) ⟨(World.heap w2).size, 0, none⟩ 1 1 [.int .i64 v] rfl rfl (cell_one_new _ _ _) (one_oneCell rfl) (by unfold maxLen; omega) (by omega) (by simp only [World.size_alloc]; have := hbw.size; omega) ?_; intro v1 w5 hL1 hgx _; have hb1 := app_below hbw (by have := hbw.size; omega) _ hgx hL (by omega)))
          go_roundw
          case rel =>
            refine ⟨n + 1, p + u.length, rfl, ?_, HS2, ?_, hb1⟩
            · rw [HST.out, HP.out]
            · rw [HST.out]
              dsimp only
              rw [List.length_append, List.map_append]
              exact hL1
          case measure => simp [intOf]; omega
    · have hp2 : p = l.length := by omega
      have hpi : ¬ (p : Int) < (l.length : Int) := by omega
      have HRES := Lib.hid (HO.out.trans (HEND.out hp2))
      clear hp2 HEND HBAD HSOME HO hple hpl
      go_wp2
      go_ret2
      rw [HRES.out]
      dsimp only
      obtain ⟨a', c', rfl⟩ := ownsRow_shape hL
      exact ⟨a', c', rfl, hL, hbw⟩

end Go.Proofs.YtcgenmkgdhaejaaDoor
