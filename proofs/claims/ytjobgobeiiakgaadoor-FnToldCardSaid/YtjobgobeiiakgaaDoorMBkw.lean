/- Turns of texts: the program's BackOfTurns. -/
import Derived.Test.YtjobgobeiiakgaaDoorMTrw
import Derived.Test.YtjobgobeiiakgaaDoorMTldB
namespace Go.Proofs.YtjobgobeiiakgaaDoor
set_option linter.unusedSimpArgs false
set_option linter.unusedVariables false
open Go.RowKit

theorem isNaNB_any (x : Int) (w : World) : Calls Tryd.prog 72 #[.int .u8 x] w fun e w' => e = .returned (.bool false) ∧ w = w' := by
  have h : (x != x) = false := by simp
  go_enter Tryd.func72, Tryd.ntmps72
  go_wp2
  go_ret
  exact ⟨rfl, rfl⟩
theorem compareB_any (x y : Nat) (w : World) : Calls Tryd.prog 55 #[.int .u8 (x : Int), .int .u8 (y : Int)] w fun e w' => e = .returned (.int .i64 (cmpN x y)) ∧ w = w' := by
  by_cases h1 : x < y
  · have H : Hid (cmpN x y = -1) := if_pos h1
    go_enter Tryd.func55, Tryd.ntmps55
    go_wp2_with (go_at_call 72; refine (isNaNB_any _ _).mono ?_; rintro e w' ⟨rfl, rfl⟩)
    go_ret
    exact ⟨ret_int H.out.symm, rfl⟩
  · by_cases h2 : y < x
    · have H : Hid (cmpN x y = 1) := by show cmpN x y = 1; unfold cmpN; rw [if_neg h1, if_pos h2]
      go_enter Tryd.func55, Tryd.ntmps55
      go_wp2_with (go_at_call 72; refine (isNaNB_any _ _).mono ?_; rintro e w' ⟨rfl, rfl⟩)
      go_ret
      exact ⟨ret_int H.out.symm, rfl⟩
    · have H : Hid (cmpN x y = 0) := by show cmpN x y = 0; unfold cmpN; rw [if_neg h1, if_neg h2]
      go_enter Tryd.func55, Tryd.ntmps55
      go_wp2_with (go_at_call 72; refine (isNaNB_any _ _).mono ?_; rintro e w' ⟨rfl, rfl⟩)
      go_ret
      exact ⟨ret_int H.out.symm, rfl⟩

theorem run_index_at (l : List UInt8) (x : Nat) (h : x < l.length) (W : World) :
    (Instr.index 9 (.string ⟨l.toArray⟩) (.int .i64 (x : Int))).run Tryd.prog W = .ok (.int .u8 ((l[x]?.getD 0).toNat : Int)) W := by
  rw [run_index_string _ _ _ _ _ Tryd.underlying9, dif_pos ⟨by omega, by show (x : Int) < ((l.toArray.size : Nat) : Int); simp; omega⟩, ba_getD _ _ h]
  rfl

set_option maxHeartbeats 1000000 in
theorem bcl_any (l : List UInt8) (b g : Nat) (w0 : World) (hbg : b ≠ g) (hb : w0.cell? ⟨b, 0, none⟩ = some (.string ⟨l.toArray⟩)) :
    ClG Tryd.prog 54 (.pointer (some ⟨b, 0, none⟩)) (some g) l.length w0 (fun x y => cmpN (l[x]?.getD 0).toNat (l[y]?.getD 0).toNat) := by
  intro W x y hW hx hy
  show Calls _ _ _ _ fun e w' => e = .returned (.int .i64 (cmpN (l[x]?.getD 0).toNat (l[y]?.getD 0).toNat)) ∧ Qu W w'
  have hb1 := World.grownBy.cell hW hb (fun e => hbg (by simpa using e))
  have hi1 := run_index_at l x hx
  have hi2 := run_index_at l y hy
  generalize (l[x]?.getD 0).toNat = u at *
  generalize (l[y]?.getD 0).toNat = v at *
  go_enter Tryd.func54, Tryd.ntmps54
  go_wp2
  go_quiet ((go_at_call 55; exact Calls.quiet_of_same ((compareB_any _ _ _).mono (fun e w' ⟨h1, h2⟩ => ⟨h1, h2.symm⟩))))
  go_wp2
  go_ret
  exact ⟨rfl, _, rfl⟩

set_option maxRecDepth 4000 in
set_option maxHeartbeats 2000000 in
theorem impl_BackOfTurns (w : World) (s : ByteArray) (hs : s.size ≤ 9223372036854775807) (hl : s.size ≤ 1048576) (a : Int) (ha : I64 a) :
    Calls Tryd.prog 24 #[.string s, .int .i64 a] w fun e w' => e = .returned (.tuple #[.string (out_BackOfTurns s a).1, .bool (out_BackOfTurns s a).2]) ∧ Below w.heap.size w w' := by
  obtain ⟨l, hle, hln⟩ : ∃ l : List UInt8, s = (⟨l.toArray⟩ : ByteArray) ∧ l.length = s.size := ⟨s.data.toList, (ba_et s).symm, ba_lt s⟩
  obtain ⟨n, hn⟩ : ∃ n : Nat, n = s.size := ⟨_, rfl⟩
  have hsz : (⟨l.toArray⟩ : ByteArray).size = n := by rw [← hle, hn]
  have hsl : s.data.toList = l := by rw [hle]
  by_cases hr : 1 ≤ n ∧ n ≤ 64
  · obtain ⟨hr1, hr2⟩ := hr
    by_cases hin : inB a 0 ((n : Int) - 1) = true
    · obtain ⟨ha0, ha1⟩ := inB_true hin
      obtain ⟨p, rfl⟩ : ∃ p : Nat, a = (p : Int) := ⟨a.toNat, by omega⟩
      have hpn : p < n := by omega
      obtain ⟨t, ht⟩ : ∃ t, t = bakT l p := ⟨_, rfl⟩
      have htl : t.length = n := by rw [ht, bakT_length]; omega
      obtain ⟨u, hu⟩ : ∃ u, u = lastL t (ordT t) := ⟨_, rfl⟩
      obtain ⟨z, hz⟩ : ∃ z, z = (ordT t).idxOf 0 := ⟨_, rfl⟩
      have HOT : Hid (out_TurnsOf ⟨t.toArray⟩ = (ByteArray.mk u.toArray, ((z : Nat) : Int), true)) := Lib.hid (by
        unfold out_TurnsOf
        have h1 : (⟨t.toArray⟩ : ByteArray).size = n := by show t.toArray.size = n; simpa using htl
        rw [if_pos (by omega), hu, hz])
      have ho : out_BackOfTurns s (p : Int) = if u = l ∧ z = p then (ByteArray.mk t.toArray, true) else (ByteArray.mk #[], false) := by
        unfold out_BackOfTurns
        rw [if_pos ⟨by omega, by omega, by omega⟩, hsl, Int.toNat_natCast, ← ht, ← hu, ← hz]
      rw [ho]
      clear ho
      obtain ⟨res, hres⟩ : ∃ res, res = if u = l ∧ z = p then (ByteArray.mk t.toArray, true) else (ByteArray.mk #[], false) := ⟨_, rfl⟩
      rw [← hres]
      have HRES := Lib.hid hres
      have HTK : Hid (∀ k, k < n → t.take (k + 1) = t.take k ++ [l[plc (ordB l) p k]?.getD 0]) := Lib.hid fun k hk => by rw [ht]; exact bakT_take l p k (by omega)
      have HTL := Lib.hid htl
      have HB : Hid (ordB l = ordX (ltB l) id n) := by show _ = _; rw [ordB, hln, hn]
      have hP := ordB_perm l
      rw [hln, ← hn] at hP
      have HP := Lib.hid hP
      have HN : Hid (l.length = n) := Lib.hid (by omega)
      have HIN := Lib.hid hin
      clear hres ht hu hz hin ha0 ha1 ha hP htl
      subst hle
      clear hs hl hln hn hsl
      obtain ⟨i0, hi0, hz00, hz01, hz02⟩ := info_parts info_u8t
      go_enter Tryd.func24, Tryd.ntmps24
      go_wp2_with (first | (go_at_call 30; refine (within_any _ _ _ _).mono ?_; rw [HIN.out]; rintro e w' ⟨rfl, rfl⟩) | (go_at_call 47; refine (counting_any n _ (by omega)).mono ?_; rintro e w1 ⟨aL, cL, rfl, hL, hb1⟩))
      have hnat : (cnt n).map (Value.int .i64) = nats (List.range n) := by simp [cnt]
      rw [hnat] at hL
      obtain ⟨g, rfl, hgB, hgl⟩ := own_some hL (by omega)
      have hw : (w.alloc (.cells #[.string ⟨l.toArray⟩] 9)).heap.size = w.heap.size + 1 := by simp only [World.size_alloc]
      have hbA : Below w.heap.size w w1 := Below.trans (show Below w.heap.size w (w.alloc (.cells #[.string ⟨l.toArray⟩] 9)) by go_grown) (hb1.mono (by omega))
      have hc1 : w1.cell? ⟨w.heap.size, 0, none⟩ = some (.string ⟨l.toArray⟩) := cell_step (W := w.alloc (.cells #[.string ⟨l.toArray⟩] 9)) (by go_cell) hb1
      have HS : Hid (Calls Tryd.prog 51 #[.slice (some ⟨g, 0, none⟩) n cL, .func (.func 54) #[] #[.pointer (some ⟨w.heap.size, 0, none⟩)]] w1 fun e w' => e = .returned (.tuple #[]) ∧ w'.ownsRow w.heap.size 2 1 (.slice (some ⟨g, 0, none⟩) n cL) n (nats (ordB l)) ∧ Below w.heap.size w w' ∧ w'.cell? ⟨w.heap.size, 0, none⟩ = some (.string ⟨l.toArray⟩)) := Lib.hid (by
        rw [HB.out]
        refine (sortBack_any (.pointer (some ⟨w.heap.size, 0, none⟩)) _ n w1 w1 (fun x y => cmpN (l[x]?.getD 0).toNat (l[y]?.getD 0).toNat) (ltB l) (ltB_sw l) (fun x y _ _ => ncmpN _ _) (by have := bcl_any l w.heap.size g w1 (by omega) hc1; rw [HN.out] at this; exact this) cL hr1 (by omega) hL (World.grownBy.refl _ _)).mono ?_
        rintro e w' ⟨rfl, hO, -, hg⟩
        exact ⟨rfl, ownsRow_base hO (by omega), Below.grown hbA hg hbA.size (fun k hk => by simp [Value.ownBlock] at hk; omega), World.grownBy.cell hg hc1 (fun e => by simp [Value.ownBlock] at e; omega)⟩)
      clear hb1 hL hnat hc1 hgl hbA
      have hplt := plc_lt HP.out hpn
      have HO2 : Hid ((ordB l)[p]?.getD 0 = plc (ordB l) p 0) := Lib.hid rfl
      have HST : Hid (∀ k, (ordB l)[plc (ordB l) p k]?.getD 0 = plc (ordB l) p (k + 1)) := Lib.hid fun k => rfl
      have hlenO : (ordB l).length = n := perm_len HP.out
      clear HB
      generalize ordB l = O at *
      go_wp2_with (go_at_call 51; refine HS.out.mono ?_; rintro e w2 ⟨rfl, hO, hb2, hc2⟩; have c0 := hO.cellAt p (by omega); rw [nats_get O _ (by omega), HO2.out] at c0; have c0a : (w2.alloc (.cells #[] 5)).cell? ⟨g, p, none⟩ = _ := cell_step c0 (by go_grown))
      have hwB : w.heap.size ≤ w2.heap.size := hb2.size
      have hgl := size_at (w0 := w2) hO hr1
      have hgB : w.heap.size < g := by omega
      obtain ⟨wz, hwz⟩ : ∃ wz, wz = w2.heap.size := ⟨_, rfl⟩
      have hown0 : (w2.alloc (.cells #[] 5)).ownsRow wz 5 1 (.slice (some ⟨w2.heap.size, 0, none⟩) 0 0) 0 (bys (t.take 0)) := by rw [hwz]; exact World.ownsRow_made w2 #[] 0 (Nat.le_refl _) (Nat.zero_le _) rfl
      have hb0 : Below wz w2 (w2.alloc (.cells #[] 5)) := by rw [hwz]; go_grown
      have HO3 := Lib.hid hO
      have HC2 := Lib.hid hc2
      clear hO hc2 HS c0 c0a HO2
      go_loopw [8, 9, 39] (fun v q i wr => ∃ k : Nat, k ≤ n ∧ i = .int .i64 (k : Int) ∧ q = .int .i64 ((plc O p k : Nat) : Int) ∧ wr.ownsRow wz 5 1 v k (bys (t.take k)) ∧ Below wz w2 wr) (fun _ _ i _ => n - (intOf i).toNat)
      case atStart => exact ⟨0, Nat.zero_le _, rfl, rfl, hown0, hb0⟩
      case round =>
        clear hown0 hb0
        obtain ⟨k, hk, rfl, rfl, hown, hb⟩ := hrel
        have hbs := hb.size
        have HB : Hid (Below w2.heap.size w2 wr) := by show Below _ _ _; rw [← hwz]; exact hb
        have hO := ownsRow_below HO3.out HB.out
        have hcw := cell_step HC2.out HB.out
        by_cases hkn : k < n
        · have hx := hplt k
          have HLK := Lib.hid (HTK.out k hkn)
          have HNX := Lib.hid (HST.out k)
          generalize plc O p k = x at *
          have hidx := run_index_at l x (by rw [HN.out]; exact hx)
          generalize l[x]?.getD 0 = ch at *
          have HO4 : Hid (∀ w3, Below wz w2 w3 → w3.cell? ⟨g, x, none⟩ = some (.int .i64 ((plc O p (k + 1) : Nat) : Int))) := Lib.hid fun w3 h3 => by
            have c1 := (ownsRow_below HO3.out (by rw [← hwz]; exact h3)).cellAt x (by omega)
            rw [nats_get O _ (by omega), HNX.out] at c1
            exact c1
          go_wp2_with ((at_builtin; refine wpList_append_own _ rfl _ _ 22 rfl wz 5 i0 (.int .u8 0) 1 1 Tryd.underlying22 hi0 hz00 hz01 hz02 rfl (by decide) u8 _ _ rfl (hown.alloc _) ⟨(World.heap wr).size, 0, none⟩ 1 1 [.int .u8 (ch.toNat : Int)] rfl rfl (cell_one_new _ _ _) (one_oneCell rfl) (by unfold maxLen; omega) (by omega) (by simp only [World.size_alloc]; have := hb.size; omega) ?_; intro v1 wA hown1 hgx _; have hb1 := app_below hb (by have := hb.size; omega) _ hgx hown (by omega)); have c1 := HO4.out wA hb1)
          rw [show bys (t.take k) ++ [Value.int .u8 (ch.toNat : Int)] = bys (t.take (k + 1)) by rw [HLK.out]; simp] at hown1
          go_roundw
          case rel => exact ⟨k + 1, by omega, by go_num, rfl, hown1, hb1⟩
          case measure => simp [intOf]; omega
        · obtain rfl : k = n := by omega
          have htt : t.take k = t := List.take_of_length_le (by rw [HTL.out]; exact Nat.le_refl _)
          rw [htt] at hown
          obtain ⟨a8, c8, rfl⟩ := ownsRow_shape hown
          have HCV : Hid (∀ W, Below wr.heap.size wr W → (convert 22 9 (.slice a8 k c8)).run Tryd.prog W = .ok (.string ⟨t.toArray⟩) W) := Lib.hid fun W hW => conv_bytes t HTL.out hr1 (ownsRow_below hown hW)
          have hcv := HCV.out _ (Below.refl _ _)
          have hbF : Below w.heap.size w wr := Below.trans hb2 (HB.out.mono hb2.size)
          have HTO := Lib.hid (impl_TurnsOf wr ⟨t.toArray⟩ (by show t.toArray.size ≤ _; have := HTL.out; simp; omega) (by show t.toArray.size ≤ _; have := HTL.out; simp; omega))
          rw [HOT.out] at HTO
          by_cases hu1 : u = l
          · by_cases hz1 : z = p
            · have HR : Hid (res = (ByteArray.mk t.toArray, true)) := Lib.hid (by rw [HRES.out, if_pos ⟨hu1, hz1⟩])
              subst hu1 hz1
              clear hown hO
              go_wp2_with (go_at_call 23; refine HTO.out.mono ?_; rintro e w3 ⟨rfl, hb3⟩; have hcw3 := cell_step hcw hb3; have hcv3 := HCV.out _ hb3)
              go_ret2
              exact ⟨by rw [HR.out]; rfl, hbF.trans (hb3.mono hbF.size)⟩
            · have HR : Hid (res = (ByteArray.mk #[], false)) := Lib.hid (by rw [HRES.out, if_neg (fun h => hz1 h.2)])
              have hzp : ((z : Int) != (p : Int)) = true := by rw [bne_iff_ne]; omega
              subst hu1
              clear hown hO hz1
              go_wp2_with (go_at_call 23; refine HTO.out.mono ?_; rintro e w3 ⟨rfl, hb3⟩; have hcw3 := cell_step hcw hb3; have hcv3 := HCV.out _ hb3)
              go_ret2
              exact ⟨by rw [HR.out]; rfl, hbF.trans (hb3.mono hbF.size)⟩
          · have HR : Hid (res = (ByteArray.mk #[], false)) := Lib.hid (by rw [HRES.out, if_neg (fun h => hu1 h.1)])
            have hul : (u != l) = true := by rw [bne_iff_ne]; exact hu1
            clear hown hO
            go_wp2_with (go_at_call 23; refine HTO.out.mono ?_; rintro e w3 ⟨rfl, hb3⟩; have hcw3 := cell_step hcw hb3; have hcv3 := HCV.out _ hb3)
            go_ret2
            exact ⟨by rw [HR.out]; rfl, hbF.trans (hb3.mono hbF.size)⟩
    · have hin' : inB a 0 ((n : Int) - 1) = false := by simpa using hin
      have ho : out_BackOfTurns s a = (ByteArray.mk #[], false) := by
        unfold out_BackOfTurns
        rw [if_neg (fun h => hin (by unfold inB; exact decide_eq_true (by omega)))]
      rw [ho]
      have HIN := Lib.hid hin'
      subst hle
      clear ho hl hln hn hs hin hin' hsl
      go_enter Tryd.func24, Tryd.ntmps24
      go_wp2_with (go_at_call 30; refine (within_any _ _ _ _).mono ?_; rw [HIN.out]; rintro e w' ⟨rfl, rfl⟩)
      go_ret2
      exact ⟨rfl, by go_grown⟩
  · have ho : out_BackOfTurns s a = (ByteArray.mk #[], false) := by
      unfold out_BackOfTurns
      rw [if_neg (fun h => hr (by omega))]
    rw [ho]
    subst hle
    have hr' : n < 1 ∨ 64 < n := by omega
    clear ho hl hln hn hr hs hsl
    by_cases h0 : n < 1
    · clear hr'
      go_enter Tryd.func24, Tryd.ntmps24
      go_wp2
      go_ret2
      exact ⟨rfl, by go_grown⟩
    · have h64 : 64 < n := by omega
      clear hr'
      go_enter Tryd.func24, Tryd.ntmps24
      go_wp2
      go_ret2
      exact ⟨rfl, by go_grown⟩

end Go.Proofs.YtjobgobeiiakgaaDoor
