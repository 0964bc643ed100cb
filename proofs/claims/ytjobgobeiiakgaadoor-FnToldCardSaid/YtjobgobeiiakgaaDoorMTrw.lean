/- Turns of texts: the program's TurnsOf. -/
import Derived.Test.YtjobgobeiiakgaaDoorMTri
import Derived.Test.YtjobgobeiiakgaaDoorMStw
import Derived.Test.YtjobgobeiiakgaaDoorMFrt2
import Derived.Deep.AppendLies
import Derived.Deep.RegionWith
namespace Go.Proofs.YtjobgobeiiakgaaDoor
set_option linter.unusedSimpArgs false
set_option linter.unusedVariables false
open Go.RowKit
theorem run_store_fnv (P : Program) (w : World) (a : Addr) (m : Mode) (fn : Fn) (first captured : Array Value) : (store a (.func fn first captured) m).run P w = stored P w a (.func fn first captured) m := run_store P w a _ m rfl
attribute [go_sem] run_store_fnv
theorem info_u8t : (Tryd.prog.info? 5).map (fun i => (i.zero, i.size, i.bytes)) = some (some (.int .u8 0), 1, 1) := by kernel_rfl
theorem conv_bytes {W : World} {B n : Nat} {a : Option Addr} {c : Nat} (l : List UInt8) (hn : l.length = n) (h1 : 1 ≤ n) (h : W.ownsRow B 5 1 (.slice a n c) n (bys l)) :
    (convert 22 9 (.slice a n c)).run Tryd.prog W = .ok (.string ⟨l.toArray⟩) W := by
  obtain ⟨g, rfl, -, -⟩ := own_some h (by omega)
  have hh := run_convert_bytes_back (P := Tryd.prog) W 22 9 5 ⟨g, 0, none⟩ c l Tryd.underlying22 Tryd.underlying5 Tryd.underlying9 (fun j hj => by
    rw [Addr.add_lit, Nat.zero_add, h.cellAt j (by omega), List.getElem?_map, List.getElem?_eq_getElem hj]
    rfl)
  rw [hn] at hh
  exact hh

theorem index0_any (n p : Nat) (o : List Nat) (v : Value) (w : World) (hv : SlR w v (nats o)) (hn : o.length = n) (hp : p < n) (hz : ∀ k, k < n → (o[k]?.getD 0 = 0 ↔ k = p)) :
    Calls Tryd.prog 48 #[v, .int .i64 0] w fun e w' => e = .returned (.int .i64 (p : Int)) ∧ w = w' := by
  obtain ⟨a, n', c, rfl, hnl, hnc, hcm, hcell⟩ := SlR.opened 0 hv
  obtain rfl : n' = n := by omega
  unfold maxLen at hcm
  have HN := Lib.hid hn
  have HZ := Lib.hid hz
  have HC := Lib.hid hcell
  have hn9 : n' ≤ 9223372036854775807 := by omega
  clear hnl hcell hn hz hv hnc hcm
  go_enter Tryd.func48, Tryd.ntmps48
  go_wp2
  go_loopw [8] (fun i wr => ∃ k : Nat, k ≤ p ∧ i = .int .i64 (k : Int) ∧ w = wr) (fun i _ => n' - (intOf i).toNat)
  case atStart => exact ⟨0, Nat.zero_le _, rfl, rfl⟩
  case round =>
    obtain ⟨k, hk, rfl, rfl⟩ := hrel
    have hlt : k < n' := by omega
    obtain ⟨b, off, rfl, hc, hbl⟩ := HC.out k hlt
    rw [List.getD_eq_getElem?_getD] at hc
    have hz := HZ.out k hlt
    have hx0 : (0 : Int) ≤ ((o[k]?.getD 0 : Nat) : Int) := by omega
    generalize o[k]?.getD 0 = x at *
    by_cases he : k = p
    · obtain rfl : x = 0 := hz.2 he
      subst he
      clear hz
      go_wp2
      go_ret
      exact ⟨rfl, rfl⟩
    · have hne : ((0 : Int) == (x : Int)) = false := beq_false_of_ne (fun h => he (hz.1 (by omega)))
      clear hz
      go_wp2
      go_roundw
      case rel => exact ⟨k + 1, by omega, by go_num, trivial⟩
      case measure => simp [intOf]; omega

set_option maxRecDepth 4000 in
set_option maxHeartbeats 2000000 in
theorem impl_TurnsOf (w : World) (s : ByteArray) (_ : s.size ≤ 9223372036854775807) (hl : s.size ≤ 1048576) :
    Calls Tryd.prog 23 #[.string s] w fun e w' => e = .returned (.tuple #[.string (out_TurnsOf s).1, .int .i64 (out_TurnsOf s).2.1, .bool (out_TurnsOf s).2.2]) ∧ Below w.heap.size w w' := by
  obtain ⟨l, hle, hln⟩ : ∃ l : List UInt8, s = (⟨l.toArray⟩ : ByteArray) ∧ l.length = s.size := ⟨s.data.toList, (ba_et s).symm, ba_lt s⟩
  obtain ⟨n, hn⟩ : ∃ n : Nat, n = s.size := ⟨_, rfl⟩
  have hsz : (⟨l.toArray⟩ : ByteArray).size = n := by rw [← hle, hn]
  by_cases hr : 1 ≤ n ∧ n ≤ 64
  · have ho : out_TurnsOf s = (ByteArray.mk (lastL l (ordT l)).toArray, (((ordT l).idxOf 0 : Nat) : Int), true) := by
      unfold out_TurnsOf
      rw [if_pos (by omega), show s.data.toList = l by rw [hle]]
    rw [ho]
    have hT := ordT_perm l
    rw [hln, ← hn] at hT
    obtain ⟨hp, hz⟩ := at_zero hT hr.1
    have HO : Hid (ordT l = ordX (ltT l) id n) := by show _ = _; rw [ordT, hln, hn]
    have HZ := Lib.hid hz
    have HT := Lib.hid hT
    have HLL : Hid (∀ k, k < n → (lastL l (ordT l)).take (k + 1) = (lastL l (ordT l)).take k ++ [l[((ordT l)[k]?.getD 0 + n - 1) % n]?.getD 0]) := Lib.hid fun k hk => by
      have hk2 : k < (ordT l).length := by rw [perm_len hT]; exact hk
      rw [List.take_succ_eq_append_getElem (by simpa [lastL] using hk2)]
      simp [lastL, hln, hn, List.getElem?_eq_getElem hk2]
    have HLN : Hid ((lastL l (ordT l)).length = n) := by show _ = _; simp [lastL, perm_len hT]
    generalize lastL l (ordT l) = R at *
    generalize (ordT l).idxOf 0 = p at *
    have HLE := Lib.hid hle
    obtain ⟨hr1, hr2⟩ := hr
    subst hle
    clear ho hz hT
    have HLNN : Hid (l.length = n) := Lib.hid (by omega)
    clear hln hl hn
    obtain ⟨i0, hi0, hz00, hz01, hz02⟩ := info_parts info_u8t
    go_enter Tryd.func23, Tryd.ntmps23
    go_wp2_with (go_at_call 47; refine (counting_any n _ (by omega)).mono ?_; rintro e w1 ⟨aL, cL, rfl, hL, hb1⟩)
    have hnat : (cnt n).map (Value.int .i64) = nats (List.range n) := by simp [cnt]
    rw [hnat] at hL
    obtain ⟨g, rfl, hgB, hgl⟩ := own_some hL (by omega)
    have hw : (w.alloc (.cells #[.string ⟨l.toArray⟩] 9)).heap.size = w.heap.size + 1 := by simp only [World.size_alloc]
    have hbA : Below w.heap.size w w1 := Below.trans (show Below w.heap.size w (w.alloc (.cells #[.string ⟨l.toArray⟩] 9)) by go_grown) (hb1.mono (by omega))
    have hc1 : w1.cell? ⟨w.heap.size, 0, none⟩ = some (.string ⟨l.toArray⟩) := cell_step (W := w.alloc (.cells #[.string ⟨l.toArray⟩] 9)) (by go_cell) hb1
    obtain ⟨q, hq⟩ : ∃ q, q = w1.heap.size := ⟨_, rfl⟩
    have HS : Hid (∀ W, W = w1.alloc (.cells #[.func (.func 50) #[] #[.pointer (some ⟨w.heap.size, 0, none⟩)]] 55) → Calls Tryd.prog 51 #[.slice (some ⟨g, 0, none⟩) n cL, .func (.func 52) #[] #[.pointer (some ⟨q, 0, none⟩)]] W fun e w' => e = .returned (.tuple #[]) ∧ w'.ownsRow w.heap.size 2 1 (.slice (some ⟨g, 0, none⟩) n cL) n (nats (ordT l)) ∧ Below w.heap.size w w' ∧ w'.cell? ⟨w.heap.size, 0, none⟩ = some (.string ⟨l.toArray⟩)) := Lib.hid fun W hW => by
      have h2 : Below w1.heap.size w1 W := by rw [hW]; go_grown
      have hL2 := ownsRow_below hL h2
      have hcc := cell_step hc1 h2
      have hcq : W.cell? ⟨q, 0, none⟩ = some (.func (.func 50) #[] #[.pointer (some ⟨w.heap.size, 0, none⟩)]) := by rw [hW, hq]; simp
      rw [HO.out]
      refine (sortTurns_any (.pointer (some ⟨q, 0, none⟩)) _ n W W (fun x y => cmpS (rot l x) (rot l y)) (ltT l) (ltT_sw l) (fun x y _ _ => ncmpS _ _) (by have := tcl_any l (by rw [HLNN.out]; omega) w.heap.size q g W (by omega) (by omega) hcc hcq; rw [HLNN.out] at this; exact this) cL hr1 (by omega) hL2 (World.grownBy.refl _ _)).mono ?_
      rintro e w' ⟨rfl, hO, -, hg⟩
      exact ⟨rfl, ownsRow_base hO (by omega), Below.grown (Below.trans hbA (h2.mono hbA.size)) hg (Nat.le_trans hbA.size h2.size) (fun k hk => by simp [Value.ownBlock] at hk; omega), World.grownBy.cell hg hcc (fun e => by simp [Value.ownBlock] at e; omega)⟩
    rw [hq] at HS
    clear hb1 hL hnat hc1 hgl hbA hq q
    go_wp2_with (go_at_call 51; refine (HS.out _ rfl).mono ?_; rintro e w2 ⟨rfl, hO, hb2, hc2⟩)
    have hlenO : (ordT l).length = n := perm_len HT.out
    have hltO := perm_lt HT.out
    have hIX : Hid (∀ W, W.ownsRow w.heap.size 2 1 (.slice (some ⟨g, 0, none⟩) n cL) n (nats (ordT l)) → Calls Tryd.prog 48 #[.slice (some ⟨g, 0, none⟩) n cL, .int .i64 0] W fun e w' => e = .returned (.int .i64 (p : Int)) ∧ W = w') := Lib.hid fun W hW => index0_any n p (ordT l) _ W (SlR.own hW) hlenO hp HZ.out
    generalize ordT l = O at *
    clear HS
    have hwB : w.heap.size ≤ w2.heap.size := hb2.size
    have hgl := size_at (w0 := w2) hO hr1
    have hgB : w.heap.size < g := by omega
    obtain ⟨wz, hwz⟩ : ∃ wz, wz = w2.heap.size := ⟨_, rfl⟩
    have hown0 : (w2.alloc (.cells #[] 5)).ownsRow wz 5 1 (.slice (some ⟨w2.heap.size, 0, none⟩) 0 0) 0 (bys (R.take 0)) := by rw [hwz]; exact World.ownsRow_made w2 #[] 0 (Nat.le_refl _) (Nat.zero_le _) rfl
    have hb0 : Below wz w2 (w2.alloc (.cells #[] 5)) := by rw [hwz]; go_grown
    have HO2 := Lib.hid hO
    have HC2 := Lib.hid hc2
    clear hO hc2
    go_loopw [8, 28] (fun v i wr => ∃ k : Nat, k ≤ n ∧ i = .int .i64 (k : Int) ∧ wr.ownsRow wz 5 1 v k (bys (R.take k)) ∧ Below wz w2 wr) (fun _ i _ => n - (intOf i).toNat)
    case atStart => exact ⟨0, Nat.zero_le _, rfl, hown0, hb0⟩
    case round =>
      clear hown0 hb0
      obtain ⟨k, hk, rfl, hown, hb⟩ := hrel
      have hbs := hb.size
      have HB : Hid (Below w2.heap.size w2 wr) := by show Below _ _ _; rw [← hwz]; exact hb
      have hO := ownsRow_below HO2.out HB.out
      have hcw := cell_step HC2.out HB.out
      by_cases hkn : k < n
      · have c1 := hO.cellAt k (by omega)
        rw [nats_get O _ (by omega)] at c1
        have hx := getNat hltO k (by omega)
        have HLK := Lib.hid (HLL.out k hkn)
        generalize O[k]?.getD 0 = x at *
        have hrn : (x + n - 1) % n < n := Nat.mod_lt _ (by omega)
        have e3 : (IntKind.i64.wrap (IntKind.i64.wrap ((x : Int) + (n : Int)) - 1)).tmod (n : Int) = (((x + n - 1) % n : Nat) : Int) := by
          have w1 : IntKind.i64.wrap ((x : Int) + (n : Int)) = (x : Int) + (n : Int) := IntWalk.i64_in _ (by omega)
          have w2 : IntKind.i64.wrap ((x : Int) + (n : Int) - 1) = (x : Int) + (n : Int) - 1 := IntWalk.i64_in _ (by omega)
          rw [w1, w2, Int.tmod_eq_emod_of_nonneg (by omega), Int.natCast_emod, Int.ofNat_sub (by omega), Int.natCast_add]; rfl
        have hn0 : ¬ n = 0 := by omega
        obtain ⟨ch, hch⟩ : ∃ ch, ch = l[(x + n - 1) % n]?.getD 0 := ⟨_, rfl⟩
        rw [← hch] at HLK
        have hidx : ∀ W, (Instr.index 9 (.string ⟨l.toArray⟩) (.int .i64 ((IntKind.i64.wrap (IntKind.i64.wrap ((x : Int) + (n : Int)) - 1)).tmod (n : Int)))).run Tryd.prog W = .ok (.int .u8 (ch.toNat : Int)) W := by
          intro W
          rw [e3, run_index_string _ _ _ _ _ Tryd.underlying9, dif_pos ⟨by omega, by rw [hsz]; omega⟩]
          rw [hch, ba_getD _ _ (by rw [HLNN.out]; exact hrn)]
          rfl
        clear e3 hrn hch
        have howna : (wr.alloc (.cells #[.int .u8 (ch.toNat : Int)] 5)).drew.ownsRow wz 5 1 u8 k (bys (R.take k)) := hown.alloc (.cells #[.int .u8 (ch.toNat : Int)] 5)
        have hnews : ∀ j u, [Value.int .u8 (ch.toNat : Int)][j]? = some u → (wr.alloc (.cells #[.int .u8 (ch.toNat : Int)] 5)).drew.cell? ((⟨wr.heap.size, 0, none⟩ : Addr).add j) = some u := cell_one_new _ _ _
        have hbase : wz ≤ (wr.alloc (.cells #[.int .u8 (ch.toNat : Int)] 5)).drew.heap.size := by
          show wz ≤ (wr.alloc _).heap.size
          rw [World.size_alloc]; omega
        have X := fun (ops : Array Oper) (o : Oper) (a : Act) (K : Act → World → Prop) (Q : Exit → Act → World → Prop) (E : Prop) h1 h2 h3 h4 h6 => step_append_lies (P := Tryd.prog) (ops := ops) (o := o) (a := a) (K := K) (Q := Q) (E := E) (wr.alloc (.cells #[.int .u8 (ch.toNat : Int)] 5)).drew h1 (.tmp 32) (.tmp 41) 22 h2 wz 5 i0 (.int .u8 0) 1 1 Tryd.underlying22 hi0 hz00 hz01 hz02 rfl (by omega) u8 k _ h3 howna ⟨wr.heap.size, 0, none⟩ 1 1 [.int .u8 (ch.toNat : Int)] h4 rfl hnews (one_oneCell rfl) (by omega) (by unfold maxLen; omega) (by omega) hbase (wr.heap.size + 1) (by show (wr.alloc _).heap.size = _; rw [World.size_alloc]) h6
        go_wp2
        go_region_law ((refine X _ _ _ _ _ _ rfl rfl rfl rfl ?_; intro g2 c2 wA hown2 hgrow2 hat2 hlt2))
        rw [show bys (R.take k) ++ [Value.int .u8 (ch.toNat : Int)] = bys (R.take (k + 1)) by rw [HLK.out]; simp] at hown2
        have hbA : Below wz w2 wA := app_below hb (by omega) (.cells #[.int .u8 (ch.toNat : Int)] 5) (⟨hgrow2.1, hgrow2.2, hgrow2.3, hgrow2.4, hgrow2.5⟩ : (wr.alloc (.cells #[.int .u8 (ch.toNat : Int)] 5)).grownBy wA u8.ownBlock) hown (Nat.le_refl _)
        clear X howna hnews hbase hgrow2
        go_wp2
        go_roundw
        case rel => exact ⟨k + 1, by omega, by go_num, hown2, hbA⟩
        case measure => simp [intOf]; omega
      · obtain rfl : k = n := by omega
        have hR : R.take k = R := List.take_of_length_le (by rw [HLN.out]; exact Nat.le_refl _)
        rw [hR] at hown
        obtain ⟨a8, c8, rfl⟩ := ownsRow_shape hown
        have hcv : ∀ q, (convert 22 9 (.slice a8 k c8)).run Tryd.prog (wr.drewN q) = .ok (.string ⟨R.toArray⟩) (wr.drewN q) := fun q => conv_bytes R HLN.out hr1 (own_drewN hown q)
        have hix : ∀ q, Calls _ _ _ (wr.drewN q) _ := fun q => hIX.out (wr.drewN q) (own_drewN hO q)
        have hbF : Below w.heap.size w wr := Below.trans hb2 (HB.out.mono hb2.size)
        clear hown hO
        go_wp2
        go_quiet ((go_at_call 48; exact Calls.quiet_of_same ((hix _).mono (fun e w' ⟨h1, h2⟩ => ⟨h1, h2.symm⟩))))
        go_wp2
        go_ret3
        exact ⟨rfl, below_drewN hbF _⟩
  · have ho : out_TurnsOf s = (ByteArray.mk #[], (0 : Int), false) := by
      unfold out_TurnsOf
      rw [if_neg (by omega)]
    rw [ho]
    subst hle
    have hr' : n < 1 ∨ 64 < n := by omega
    clear ho hl hln hn hr
    by_cases h0 : n < 1
    · clear hr'
      go_enter Tryd.func23, Tryd.ntmps23
      go_wp2
      go_ret3
      exact ⟨rfl, by go_grown⟩
    · have h64 : 64 < n := by omega
      clear hr'
      go_enter Tryd.func23, Tryd.ntmps23
      go_wp2
      go_ret3
      exact ⟨rfl, by go_grown⟩

end Go.Proofs.YtjobgobeiiakgaaDoor
