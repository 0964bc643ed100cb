/- The law FnTold: its walk. -/
import Derived.Test.YtjobgobeiiakgaaDoorMTldB
import Derived.Test.YtjobgobeiiakgaaDoorMTldF
import Derived.Test.YtjobgobeiiakgaaDoorMTld0
import Derived.Test.YtjobgobeiiakgaaDoorMNobi
import Derived.Test.YtjobgobeiiakgaaDoorMRun3
import Derived.Test.YtjobgobeiiakgaaDoorMBkw
import Derived.Deep.RegionHeld3
import Derived.Deep.Cut
import Derived.Deep.CutBlock
namespace Go.Proofs.YtjobgobeiiakgaaDoor
set_option linter.unusedSimpArgs false
set_option linter.unusedVariables false
open Go.RowKit
theorem info_intT : (Tryd.prog.info? 3).map (fun i => (i.zero, i.size, i.bytes)) = some (some (.int .i64 0), 1, 8) := by kernel_rfl
theorem num_pair {kind k n : Int} (h : (numT kind k n).2 = true) : numT kind k n = (⟨(txN kind k n).toArray⟩, true) := Prod.ext (numT_tx kind k n) h
theorem conv_sl {w : World} {a : Option Addr} {n c : Nat} (l : List UInt8) (hn : l.length = n) (h : SlR w (.slice a n c) (byv l)) :
    (convert 22 9 (.slice a n c)).run Tryd.prog w = .ok (.string ⟨l.toArray⟩) w := by
  obtain ⟨a', n', c', he, hnl, -, -, hcell⟩ := SlR.opened (0 : UInt8) h
  cases he
  by_cases h0 : n = 0
  · subst h0
    obtain rfl : l = [] := List.length_eq_zero_iff.1 hn
    rw [run_convert_bytes_string w _ _ 5 a 0 c Tryd.underlying22 Tryd.underlying5 Tryd.underlying9]
    cases a with
    | none => rfl
    | some a => exact run_bytesToString w a 0 c [] rfl
  · obtain ⟨b, off, rfl, -, -⟩ := hcell 0 (by omega)
    have hh := run_convert_bytes_back (P := Tryd.prog) w 22 9 5 ⟨b, off, none⟩ c l Tryd.underlying22 Tryd.underlying5 Tryd.underlying9 (fun j hj => by
      obtain ⟨b', o', e, hc, -⟩ := hcell j (by omega)
      cases e
      rw [Addr.add_lit, hc, List.getD_eq_getElem?_getD, List.getElem?_eq_getElem hj]
      rfl)
    rw [hn] at hh
    exact hh

/-- How much more often a letter is in one text than in another one. -/
def cntD (A B : List UInt8) (c : Nat) : Int := ((A.countP fun x => x.toNat == c : Nat) : Int) - ((B.countP fun x => x.toNat == c : Nat) : Int)
def cvec (A B : List UInt8) : List Value := (List.range 256).map fun c => .int .i64 (cntD A B c)
theorem cvec_length (A B : List UInt8) : (cvec A B).length = 256 := by simp [cvec]
theorem cvec_get (A B : List UInt8) {c : Nat} (h : c < 256) : (cvec A B)[c]? = some (.int .i64 (cntD A B c)) := by
  unfold cvec
  rw [List.getElem?_map, List.getElem?_range h]
  rfl
theorem cvec_inc (A B : List UInt8) (x : UInt8) : (cvec A B).set x.toNat (.int .i64 (cntD A B x.toNat + 1)) = cvec (A ++ [x]) B := by
  refine List.ext_getElem (by simp [cvec]) (fun c h1 h2 => ?_)
  have hc : c < 256 := by rw [cvec_length] at h2; exact h2
  rw [List.getElem_set]
  simp only [cvec, List.getElem_map, List.getElem_range]
  by_cases h : x.toNat = c
  · rw [if_pos h]; subst h; congr 1; unfold cntD; rw [List.countP_append, List.countP_singleton, if_pos (by simp)]; omega
  · rw [if_neg h]; congr 1; unfold cntD; rw [List.countP_append, List.countP_singleton, if_neg (by simpa using h)]; omega
theorem cvec_dec (A B : List UInt8) (x : UInt8) : (cvec A B).set x.toNat (.int .i64 (cntD A B x.toNat - 1)) = cvec A (B ++ [x]) := by
  refine List.ext_getElem (by simp [cvec]) (fun c h1 h2 => ?_)
  have hc : c < 256 := by rw [cvec_length] at h2; exact h2
  rw [List.getElem_set]
  simp only [cvec, List.getElem_map, List.getElem_range]
  by_cases h : x.toNat = c
  · rw [if_pos h]; subst h; congr 1; unfold cntD; rw [List.countP_append, List.countP_singleton, if_pos (by simp)]; omega
  · rw [if_neg h]; congr 1; unfold cntD; rw [List.countP_append, List.countP_singleton, if_neg (by simpa using h)]; omega
theorem cvec_zero {A B : List UInt8} (h : B.Perm A) : cvec A B = List.replicate 256 (.int .i64 0) := by
  refine List.ext_getElem (by rw [cvec_length, List.length_replicate]) (fun c h1 h2 => ?_)
  simp only [cvec, List.getElem_map, List.getElem_range, List.getElem_replicate]
  unfold cntD
  rw [h.countP_eq, Int.sub_self]
theorem cntD_bd (A B : List UInt8) (c : Nat) : -(B.length : Int) ≤ cntD A B c ∧ cntD A B c ≤ (A.length : Int) := by
  have h1 := List.countP_le_length (p := fun x : UInt8 => x.toNat == c) (l := A)
  have h2 := List.countP_le_length (p := fun x : UInt8 => x.toNat == c) (l := B)
  unfold cntD
  omega

set_option maxRecDepth 10000 in
set_option maxHeartbeats 8000000 in
theorem tld_walk (w : World) (a1 a2 : Option Addr) (c1 c2 : Nat) (code more : List UInt8) (nc nm : Nat) (hnc : code.length = nc) (hnm : more.length = nm) (hc : nc ≤ 48) (hm : nm ≤ 48) (s1 : SlR w (.slice a1 nc c1) (byv code)) (s2 : SlR w (.slice a2 nm c2) (byv more)) :
    Calls Tryd.prog 4 #[.slice a1 nc c1, .slice a2 nm c2] w fun e w' => e = .returned (.bool true) ∧ Below w.heap.size w w' := by
  have HL := Lib.hid (fun W (hW : Below w.heap.size w W) => r8Long_any _ _ code more W (s1.below hW) (s2.below hW))
  rw [hnc, hnm, show (decide (48 < nc) || decide (48 < nm)) = false by simp; omega] at HL
  have HAM : Hid (∀ (k n : Nat) (W : World), Below w.heap.size w W → k ≤ 1000 → n ≤ 1000 → Calls Tryd.prog 6 #[.slice a2 nm c2, .int .i64 (k : Int), .int .i64 (n : Int)] W fun e w' => e = .returned (.int .i64 ((at8 more k n : Nat) : Int)) ∧ W = w') := Lib.hid fun k n W hW h1 h2 => r8At_any _ more k n W (by omega) (by omega) h2 (s2.below hW)
  have HAC : Hid (∀ (k n : Nat) (W : World), Below w.heap.size w W → k ≤ 1000 → n ≤ 1000 → Calls Tryd.prog 6 #[.slice a1 nc c1, .int .i64 (k : Int), .int .i64 (n : Int)] W fun e w' => e = .returned (.int .i64 ((at8 code k n : Nat) : Int)) ∧ W = w') := Lib.hid fun k n W hW h1 h2 => r8At_any _ code k n W (by omega) (by omega) h2 (s1.below hW)
  have HBI : Hid (∀ (n : Nat) (W : World), Below w.heap.size w W → n ≤ 1000 → Calls Tryd.prog 7 #[.slice a1 nc c1, .int .i64 (n : Int)] W fun e w' => (∃ t : List UInt8, t.length = n ∧ (∀ ch ∈ t, ch = 48 ∨ ch = 49) ∧ e = .returned (.string ⟨t.toArray⟩)) ∧ Below W.heap.size W w') := Lib.hid fun n W hW h2 => R8Bits_any W _ code n (by omega) h2 (s1.below hW)
  have HBW : Hid (∀ (n most : Nat) (W : World), Below w.heap.size w W → n ≤ 1000 → 1 ≤ most → most ≤ 200 → Calls Tryd.prog 20 #[.slice a2 nm c2, .int .i64 (n : Int), .int .i64 (most : Int)] W fun e w' => ∃ ls : List Int, ls.length = n ∧ (∀ x ∈ ls, 0 ≤ x ∧ x < (most : Int)) ∧ RetSl W 2 n (ls.map (Value.int .i64)) id e w') := Lib.hid fun n most W hW h2 h3 h4 => R8Below_any W _ more n most (by omega) h2 h3 h4 (s2.below hW)
  have HCV : Hid (∀ W, Below w.heap.size w W → (convert 22 9 (.slice a1 nc c1)).run Tryd.prog W = .ok (.string ⟨code.toArray⟩) W) := Lib.hid fun W hW => conv_sl code hnc (s1.below hW)
  have HSM : Hid (∀ (W : World) (u v : Value) (xs : List Int), xs.length ≤ 1000 → SlR W u (xs.map (Value.int .i64)) → SlR W v (xs.map (Value.int .i64)) → Calls Tryd.prog 17 #[u, v] W fun e w' => e = .returned (.bool true) ∧ Below W.heap.size W w') := Lib.hid fun W u v xs h hu hv => (r8Same_any u v xs W h hu hv).mono (fun e w' ⟨a, b⟩ => ⟨a, b.keep⟩)
  have hkd0 := at8_lt more 40 5 (by omega)
  have hkk0 := at8_lt more 41 5 (by omega)
  have hm00 := at8_lt more 42 6 (by omega)
  have HA40 := Lib.hid (HAM.out 40 5 w (Below.refl _ _) (by omega) (by omega))
  have HA41 := Lib.hid (HAM.out 41 5 w (Below.refl _ _) (by omega) (by omega))
  have HA42 := Lib.hid (fun W hW => HAM.out 42 6 W hW (by omega) (by omega))
  have HNC := Lib.hid hnc
  clear s1 s2 hnc hnm
  generalize at8 more 40 5 = kd at *
  generalize at8 more 41 5 = kk at *
  generalize at8 more 42 6 = m0 at *
  obtain ⟨i0, hi0, hz00, hz01, hz02⟩ := info_parts info_Int64S
  have hown0 : (w.alloc (.cells #[] 2)).ownsRow w.heap.size 2 1 (.slice (some ⟨w.heap.size, 0, none⟩) 0 0) 0 [] := World.ownsRow_made w #[] 0 (Nat.le_refl _) (Nat.zero_le _) rfl
  have hb0 : Below w.heap.size w (w.alloc (.cells #[] 2)) := by go_grown
  go_enter Tryd.func4, Tryd.ntmps4
  go_upto_region 3 with (go_at_call 5; refine (HL.out _ (Below.refl _ _)).mono ?_; rintro e w' ⟨rfl, rfl⟩)
  go_upto_region 4 with (go_at_call 6; refine HA40.out.mono ?_; rintro e w' ⟨rfl, rfl⟩)
  go_upto_region 5 with (go_at_call 6; refine HA41.out.mono ?_; rintro e w' ⟨rfl, rfl⟩)
  clear HL HA40 HA41
  go_upto_block 0 with (go_at_call 6; refine (HA42.out _ hb0).mono ?_; rintro e w' ⟨rfl, rfl⟩)
  go_cut [7, 8] from 48 to 105 (fun s7 s8 W => ∃ vs : List Int, s8 = .string ⟨(catN kd kk vs).toArray⟩ ∧ vs.length ≤ 5 ∧ Smalls vs ∧ W.ownsRow w.heap.size 2 1 s7 vs.length (vs.map (Value.int .i64)) ∧ Below w.heap.size w W)
  case first =>
    have HTX : Hid (∀ (x : Nat), x < 60 → (∀ W, kd = 0 → Calls Tryd.prog 11 #[.int .i64 (1 + (x : Int))] W fun e w' => e = .returned (.tuple #[.string ⟨(txN kd kk (1 + (x : Int))).toArray⟩, .bool true]) ∧ Below W.heap.size W w') ∧
        (∀ W, kd = 1 → Calls Tryd.prog 12 #[.int .i64 (1 + (x : Int))] W fun e w' => e = .returned (.tuple #[.string ⟨(txN kd kk (1 + (x : Int))).toArray⟩, .bool true]) ∧ Below W.heap.size W w') ∧
        (∀ W, kd = 2 → Calls Tryd.prog 13 #[.int .i64 (1 + (x : Int))] W fun e w' => e = .returned (.tuple #[.string ⟨(txN kd kk (1 + (x : Int))).toArray⟩, .bool true]) ∧ Below W.heap.size W w') ∧
        (∀ W, kd = 3 → Calls Tryd.prog 14 #[.int .i64 (1 + (x : Int))] W fun e w' => e = .returned (.tuple #[.string ⟨(txN kd kk (1 + (x : Int))).toArray⟩, .bool true]) ∧ Below W.heap.size W w') ∧
        (∀ W, kd = 4 → Calls Tryd.prog 15 #[.int .i64 (1 + (x : Int)), .int .i64 (kk : Int)] W fun e w' => e = .returned (.tuple #[.string ⟨(txN kd kk (1 + (x : Int))).toArray⟩, .bool true]) ∧ Below W.heap.size W w') ∧ 1 ≤ (txN kd kk (1 + (x : Int))).length ∧ (txN kd kk (1 + (x : Int))).length ≤ 100) := Lib.hid fun x hx => by
      obtain ⟨n1, n2, n3, -⟩ := small_one (kind := kd) (k := kk) (v := x) (by omega) (by omega) hx
      rw [show ((x + 1 : Nat) : Int) = 1 + (x : Int) by omega] at n1 n2 n3
      have hp := num_pair n1
      have hI : I64 (1 + (x : Int)) := by unfold I64; omega
      refine ⟨fun W h => ?_, fun W h => ?_, fun W h => ?_, fun W h => ?_, fun W h => ?_, n2, n3⟩
      · subst h
        have := impl_UnaryOf W _ hI
        rw [show out_UnaryOf (1 + (x : Int)) = _ from hp] at this
        exact this
      · subst h
        have := impl_GammaOf W _ hI
        rw [show out_GammaOf (1 + (x : Int)) = _ from hp] at this
        exact this
      · subst h
        have := impl_DeltaOf W _ hI
        rw [show out_DeltaOf (1 + (x : Int)) = _ from hp] at this
        exact this
      · subst h
        have := impl_FibonacciOf W _ hI
        rw [show out_FibonacciOf (1 + (x : Int)) = _ from hp] at this
        exact this
      · subst h
        have := impl_RiceOf W _ hI (kk : Int) (by unfold I64; omega)
        rw [show out_RiceOf (1 + (x : Int)) (kk : Int) = _ from hp] at this
        exact this
    go_wp2_with fail
    go_loopw [7, 8, 9] (fun v s q W => ∃ (j : Nat) (vs : List Int), q = .int .i64 (j : Int) ∧ s = .string ⟨(catN kd kk vs).toArray⟩ ∧ vs.length + j = m0 ∧ Hid (Smalls vs) ∧ W.ownsRow w.heap.size 2 1 v vs.length (vs.map (Value.int .i64)) ∧ Below w.heap.size w W) (fun _ _ q _ => (intOf q).toNat)
    case atStart => exact ⟨m0, [], rfl, rfl, by simp, Lib.hid (fun x h => by cases h), hown0, hb0⟩
    case round =>
      clear hown0 hb0 HA42
      obtain ⟨j, vs, rfl, rfl, hj, hvs, hown, hb⟩ := hrel
      by_cases hj0 : 0 < j
      · have hx1 := at8_lt code j 60 (by omega)
        have HAJ := Lib.hid (HAC.out j 60 wr hb (by omega) (by omega))
        generalize at8 code j 60 = x1 at *
        obtain ⟨t0, t1, t2, t3, t4, l1, l2⟩ := HTX.out x1 hx1
        have HT0 := Lib.hid t0
        have HT1 := Lib.hid t1
        have HT2 := Lib.hid t2
        have HT3 := Lib.hid t3
        have HT4 := Lib.hid t4
        have E1 : Hid ((j : Int) - 1 = ((j - 1 : Nat) : Int)) := by show _ = _; omega
        have E2 : Hid (vs.length + 1 + (j - 1) = m0) := by show _ = _; omega
        have E3 : Hid ((intOf (.int .i64 ((j : Int) - 1))).toNat < (intOf (.int .i64 (j : Int))).toNat) := by show _ < _; simp only [intOf]; omega
        have HSV : Hid (Smalls (vs ++ [1 + (x1 : Int)])) := Lib.hid fun v hv => by
          rcases List.mem_append.1 hv with h | h
          · exact hvs.out v h
          · rw [List.mem_singleton] at h
            exact ⟨x1, by omega, hx1⟩
        have HCT : Hid ((⟨(catN kd kk vs).toArray⟩ : ByteArray) ++ ⟨(txN kd kk (1 + (x1 : Int))).toArray⟩ = ⟨(catN kd kk (vs ++ [1 + (x1 : Int)])).toArray⟩) := by
          show _ = _
          rw [cat_lists, catN_append, catN_one]
        have hcl := (catN_small (kind := kd) (k := kk) (by omega) (by omega) hvs.out).1
        have hcl5 : (catN kd kk vs).length ≤ 500 := by omega
        clear t0 t1 t2 t3 t4 hcl HTX HAC
        obtain ⟨cN2, hcN2⟩ : ∃ c, c = catN kd kk (vs ++ [1 + (x1 : Int)]) := ⟨_, rfl⟩
        rw [← hcN2] at HCT
        have HC2 := Lib.hid hcN2
        clear hcN2
        generalize catN kd kk vs = cN at *
        generalize txN kd kk (1 + (x1 : Int)) = tN at *
        go_upto_block 2 with (go_at_call 6; refine HAJ.out.mono ?_; rintro e w' ⟨rfl, rfl⟩)
        go_cut [11, 12] from 56 to 92 (fun s11 s12 W => s11 = .string ⟨tN.toArray⟩ ∧ s12 = .bool true ∧ Below wr.heap.size wr W)
        case first =>
          clear E1 E2 E3 HSV HCT HAJ hj hown
          rcases (show kd = 0 ∨ kd = 1 ∨ kd = 2 ∨ kd = 3 ∨ kd = 4 by omega) with rfl | rfl | rfl | rfl | rfl
          · go_wp2_with (go_at_call 11; refine (HT0.out _ rfl).mono ?_; rintro e w2 ⟨rfl, hb2⟩)
            go_meet
            case rel => exact ⟨rfl, rfl, hb2⟩
          · go_wp2_with (go_at_call 12; refine (HT1.out _ rfl).mono ?_; rintro e w2 ⟨rfl, hb2⟩)
            go_meet
            case rel => exact ⟨rfl, rfl, hb2⟩
          · go_wp2_with (go_at_call 13; refine (HT2.out _ rfl).mono ?_; rintro e w2 ⟨rfl, hb2⟩)
            go_meet
            case rel => exact ⟨rfl, rfl, hb2⟩
          · go_wp2_with (go_at_call 14; refine (HT3.out _ rfl).mono ?_; rintro e w2 ⟨rfl, hb2⟩)
            go_meet
            case rel => exact ⟨rfl, rfl, hb2⟩
          · go_wp2_with (go_at_call 15; refine (HT4.out _ rfl).mono ?_; rintro e w2 ⟨rfl, hb2⟩)
            go_meet
            case rel => exact ⟨rfl, rfl, hb2⟩
        case rest =>
          obtain ⟨rfl, rfl, hbc⟩ := hcut
          have hown2 := ownsRow_below hown hbc
          have hb2 := hb.trans (hbc.mono hb.size)
          have hemp : tN.isEmpty = false := by cases tN with
            | nil => simp at l1
            | cons _ _ => rfl
          clear HT0 HT1 HT2 HT3 HT4 hown
          go_wp2_with (at_builtin; refine wpList_append_own _ rfl _ _ 32 rfl w.heap.size 2 i0 (.int .i64 0) 1 8 Tryd.underlying32 hi0 hz00 hz01 hz02 rfl (by decide) u7 _ _ rfl (hown2.alloc _) ⟨(World.heap wc).size, 0, none⟩ 1 1 [.int .i64 (1 + (x1 : Int))] rfl rfl (cell_one_new _ _ _) (one_oneCell rfl) (by unfold maxLen; omega) (by omega) (by simp only [World.size_alloc]; have := hb2.size; omega) ?_; intro v3 w3 hown3 hgx _; have hb3 := app_below hb2 (by have := hb2.size; omega) _ hgx hown2 (by omega))
          rw [show vs.map (Value.int .i64) ++ [.int .i64 (1 + (x1 : Int))] = (vs ++ [1 + (x1 : Int)]).map (Value.int .i64) by simp] at hown3
          go_roundw
          case rel => exact ⟨j - 1, vs ++ [1 + (x1 : Int)], congrArg (Value.int .i64) E1.out, by rw [HCT.out, HC2.out], by rw [List.length_append]; exact E2.out, HSV, by rw [List.length_append]; exact hown3, hb3⟩
          case measure => exact E3.out
      · obtain rfl : j = 0 := by omega
        have hl5 : vs.length ≤ 5 := by omega
        clear hj HTX
        go_wp2
        go_meet
        case rel => exact ⟨vs, rfl, hl5, hvs.out, hown, hb⟩
  case rest =>
    obtain ⟨vs, rfl, hl5, hvs, hown, hb⟩ := hcut
    clear hown0 hb0 HA42 HAC
    obtain ⟨hbk, hncR⟩ := numbers_told (kind := kd) (k := kk) (by omega) (by omega) hl5 hvs
    have HNB : Hid (∀ W, Calls Tryd.prog 16 #[.int .i64 (kd : Int), .int .i64 (kk : Int), .string ⟨(catN kd kk vs).toArray⟩] W (RetSl W 2 vs.length (vs.map (Value.int .i64)) (fun v => .tuple #[v, .bool true]))) := Lib.hid fun W => by
      have := implNumbers_yes W kd kk (inB_of (by omega) (by omega)) (inB_of (by omega) (by omega)) _ hbk
      rw [hncR] at this
      exact this
    have hs0 := SlR.own hown
    have HSV : Hid (∀ (W : World) (u v : Value), SlR W u (vs.map (Value.int .i64)) → SlR W v (vs.map (Value.int .i64)) → Calls Tryd.prog 17 #[u, v] W fun e w' => e = .returned (.bool true) ∧ Below W.heap.size W w') := Lib.hid fun W u v hu hv => HSM.out W u v vs (by omega) hu hv
    clear hncR hbk hown hkd0 hkk0 hm00
    generalize catN kd kk vs = cN at *
    go_upto_region 31 with (first
      | (go_at_call 17; refine (HSV.out _ _ _ hs1 (hs0.below hb1)).mono ?_; rintro e w2 ⟨rfl, hb2'⟩; have hb2 := hbb1.trans (hb2'.mono hbb1.size))
      | (go_at_call 16; refine (HNB.out _).mono ?_; rintro e w1 ⟨ar, cr, rfl, hs1, hb1⟩; replace hs1 := SlR.own hs1; have hbb1 := hb.trans (hb1.mono hb.size)))
    clear HNB HSV hs0 hs1 hb1 hbb1 hb2' hvs hb
    have hx0 := at8_lt more 43 40 (by omega)
    have HA43 := Lib.hid (HAM.out 43 40 w2 hb2 (by omega) (by omega))
    have HB43 := HBI.out (1 + at8 more 43 40) w2 hb2 (by omega)
    rw [show ((1 + at8 more 43 40 : Nat) : Int) = 1 + ((at8 more 43 40 : Nat) : Int) by omega] at HB43
    replace HB43 := Lib.hid HB43
    generalize at8 more 43 40 = x43 at *
    go_upto_region 32 with (first
      | (go_at_call 7; refine HB43.out.mono ?_; rintro e w3 ⟨⟨t, ht1, ht2, rfl⟩, hb3'⟩; have hb3 := hb2.trans (hb3'.mono hb2.size))
      | (go_at_call 6; refine HA43.out.mono ?_; rintro e w' ⟨rfl, rfl⟩))
    clear HA43 HB43 hb3' hb2 HBI
    have ht0 : 1 ≤ t.length := by omega
    have ht4 : t.length ≤ 40 := by omega
    obtain ⟨xs, e1, e2, e3, e4, e5⟩ := runs_told ht2 ht0 (by omega)
    have hsz : (⟨t.toArray⟩ : ByteArray).size ≤ 1048576 := by show t.toArray.size ≤ _; rw [List.size_toArray]; omega
    have HRN : Hid (Calls Tryd.prog 18 #[.string ⟨t.toArray⟩] w3 (RetSl w3 2 xs.length (xs.map (Value.int .i64)) (fun v => .tuple #[v, .bool true]))) := Lib.hid (by
      have := impl_RunsOf w3 ⟨t.toArray⟩ (by omega) hsz
      rw [e1] at this
      exact this)
    have HBR : Hid (∀ (W : World) (v : Value) (b : Bool), b = decide (t[0]? = some 49) → SlR W v (xs.map (Value.int .i64)) → Calls Tryd.prog 19 #[.bool b, v] W fun e w' => e = .returned (.tuple #[.string ⟨t.toArray⟩, .bool true]) ∧ Below W.heap.size W w') := Lib.hid fun W v b hb hv => by
      have := impl_BitsOfRuns W b v xs hv (fun x hx => by have := e3 x hx; unfold I64; omega) (by omega)
      rw [hb, e5] at this
      rw [hb]
      exact this
    have h1x : 1 ≤ xs.length := by
      cases xs with
      | nil => simp at e4; omega
      | cons _ _ => simp
    have HE3 := Lib.hid e3
    have HE4 := Lib.hid e4
    have HT2 := Lib.hid ht2
    clear e1 e3 e4 e5 ht2 ht1 hsz
    go_upto_region 33 with (go_at_call 18; refine HRN.out.mono ?_; rintro e w4 ⟨ar, cr, rfl, hs4, hb4'⟩; replace hs4 := SlR.own hs4; have hb4 := hb3.trans (hb4'.mono hb3.size))
    clear HRN hb4' hb3
    go_cut [18, 19] from 131 to 138 (fun s18 s19 W => s18 = .string ⟨t.toArray⟩ ∧ s19 = .bool true ∧ Below w4.heap.size w4 W)
    case first =>
      obtain ⟨ch, tr, rfl⟩ : ∃ ch tr, t = ch :: tr := by
        cases t with
        | nil => simp at ht0
        | cons a b => exact ⟨a, b, rfl⟩
      rcases HT2.out ch (List.mem_cons_self ..) with rfl | rfl
      · go_wp2_with (go_at_call 19; refine (HBR.out _ _ _ (by first | rfl | simp) hs4).mono ?_; rintro e w5 ⟨rfl, hb5⟩)
        go_meet
        case rel => exact ⟨rfl, rfl, hb5⟩
      · go_wp2_with (go_at_call 19; refine (HBR.out _ _ _ (by first | rfl | simp) hs4).mono ?_; rintro e w5 ⟨rfl, hb5⟩)
        go_meet
        case rel => exact ⟨rfl, rfl, hb5⟩
    case rest =>
      obtain ⟨rfl, rfl, hb5⟩ := hcut
      have hb6 := hb4.trans (hb5.mono hb4.size)
      obtain ⟨bb, ob, cb, he, hnc1, hcm1, hcell1⟩ := sl_ints (hs4.below hb5) rfl h1x
      simp only [Value.slice.injEq] at he
      obtain ⟨rfl, -, rfl⟩ := he
      have HXC := Lib.hid (hcell1 wc (Below.refl _ _))
      unfold maxLen at hcm1
      clear hcell1 hs4 hb5 hb4 HBR HT2
      go_upto_block 3 with fail
      go_cut [20] from 150 to 166 (fun s20 W => s20 = .int .i64 (t.length : Int) ∧ Below w.heap.size w W)
      case first =>
        have HSB : Hid (∀ k, k < xs.length → (0 ≤ (xs.take k).sum ∧ (xs.take k).sum ≤ 512 * (k : Int)) ∧ (xs.take (k + 1)).sum = (xs.take k).sum + xs[k]?.getD 0 ∧ 1 ≤ xs[k]?.getD 0 ∧ xs[k]?.getD 0 ≤ 512) := Lib.hid fun k hk => by
          have hst : ∀ k, k < xs.length → (xs.take (k + 1)).sum = (xs.take k).sum + xs[k]?.getD 0 := fun k hk => by
            rw [List.take_succ_eq_append_getElem hk, List.sum_append, List.sum_singleton, List.getElem?_eq_getElem hk]; rfl
          have hx1 : ∀ k, k < xs.length → 1 ≤ xs[k]?.getD 0 ∧ xs[k]?.getD 0 ≤ 512 := fun k hk => by
            rw [List.getElem?_eq_getElem hk]; exact HE3.out _ (List.getElem_mem hk)
          refine ⟨?_, hst k hk, hx1 k hk⟩
          induction k with
          | zero => simp
          | succ k ih =>
            have i1 := ih (by omega)
            have i2 := hst k (by omega)
            have i3 := hx1 k (by omega)
            rw [i2]
            omega
        have HEND : Hid ((xs.take xs.length).sum = (t.length : Int)) := by show _ = _; rw [List.take_length]; exact HE4.out
        clear HE3 HE4
        generalize xs.length = nx at *
        go_wp2_with fail
        go_loopw [20, 21] (fun s i W => ∃ k : Nat, k ≤ nx ∧ i = .int .i64 (k : Int) ∧ s = .int .i64 (xs.take k).sum ∧ wc = W) (fun _ i _ => nx - (intOf i).toNat)
        case atStart => exact ⟨0, Nat.zero_le _, rfl, rfl, rfl⟩
        case round =>
          obtain ⟨k, hk, rfl, rfl, rfl⟩ := hrel
          by_cases hlt : k < nx
          · obtain ⟨⟨j1, j2⟩, j3, j4, j5⟩ := HSB.out k hlt
            have d := HXC.out k hlt
            have J3 := Lib.hid j3
            clear j3
            generalize (xs.take k).sum = sm at *
            generalize xs[k]?.getD 0 = x at *
            have j6 : sm ≤ 262144 := by omega
            have j7 : ¬ x < 1 := by omega
            clear j2
            go_wp2
            go_roundw
            case rel => exact ⟨k + 1, by omega, by go_num, by rw [J3.out], by first | rfl | trivial⟩
            case measure => simp [intOf]; omega
          · obtain rfl : k = nx := by omega
            go_wp2
            go_meet
            case rel => exact ⟨by rw [HEND.out], hb6⟩
      case rest =>
        obtain ⟨rfl, hb7⟩ := hcut
        clear HE3 HE4 HXC hb6 h1x
        generalize xs.length = nx at *
        have h44 := at8_lt more 44 8 (by omega)
        have h45 := at8_lt more 45 20 (by omega)
        have HA44 := Lib.hid (HAM.out 44 8 wc hb7 (by omega) (by omega))
        have HA45 := Lib.hid (HAM.out 45 20 wc hb7 (by omega) (by omega))
        have HB45 := HBW.out (at8 more 45 20) (1 + at8 more 44 8) wc hb7 (by omega) (by omega) (by omega)
        rw [show ((1 + at8 more 44 8 : Nat) : Int) = 1 + ((at8 more 44 8 : Nat) : Int) by omega] at HB45
        replace HB45 := Lib.hid HB45
        generalize at8 more 44 8 = x44 at *
        generalize at8 more 45 20 = x45 at *
        go_upto_region 44 with (go_at_call 6; refine HA44.out.mono ?_; rintro e w' ⟨rfl, rfl⟩)
        go_upto_region 45 with (first
          | (go_at_call 20; refine HB45.out.mono ?_; rintro e w5 ⟨ls, hl1, hl2, aL, cL, rfl, hsL, hb8'⟩; replace hsL := SlR.own hsL; have hb8 := hb7.trans (hb8'.mono hb7.size))
          | (go_at_call 6; refine HA45.out.mono ?_; rintro e w' ⟨rfl, rfl⟩))
        clear HA44 HA45 HB45 HBW HAM hb8' hb7
        have hl2' : ∀ x ∈ ls, 0 ≤ x ∧ x < ((1 + x44 : Nat) : Int) := fun x hx => by have := hl2 x hx; omega
        obtain ⟨ps, g1, g2, g3, g4, g5⟩ := front_told (n := 1 + x44) (by omega) (by omega) (by omega) hl2'
        rw [show ((1 + x44 : Nat) : Int) = 1 + (x44 : Int) by omega] at g1 g3 g4
        have hI1 : I64 (1 + (x44 : Int)) := by unfold I64; omega
        have HFR : Hid (Calls Tryd.prog 21 #[.slice aL x45 cL, .int .i64 (1 + (x44 : Int))] w5 (RetSl w5 2 x45 (ps.map (Value.int .i64)) (fun v => .tuple #[v, .bool true]))) := Lib.hid (by
          have := impl_FrontOf w5 _ ls hsL (fun x hx => by have := hl2 x hx; unfold I64; omega) (by omega) _ hI1
          rw [g1] at this
          simp only [g2, hl1] at this
          exact this)
        have HBF : Hid (∀ W v, SlR W v (ps.map (Value.int .i64)) → Calls Tryd.prog 22 #[v, .int .i64 (1 + (x44 : Int))] W (RetSl W 2 x45 (ls.map (Value.int .i64)) (fun v => .tuple #[v, .bool true]))) := Lib.hid fun W v hv => by
          have := impl_BackOfFront W v ps hv (fun x hx => by have := g3 x hx; unfold I64; omega) (by omega) _ hI1
          rw [g4] at this
          simp only [hl1] at this
          exact this
        have HSL : Hid (∀ (W : World) (u v : Value), SlR W u (ls.map (Value.int .i64)) → SlR W v (ls.map (Value.int .i64)) → Calls Tryd.prog 17 #[u, v] W fun e w' => e = .returned (.bool true) ∧ Below W.heap.size W w') := Lib.hid fun W u v hu hv => HSM.out W u v ls (by omega) hu hv
        have HG5 : Hid (∀ k, k + 1 < x45 → (decide (ps[k + 1]?.getD 0 = 0) = decide (ls[k + 1]?.getD 0 = ls[k]?.getD 0))) := Lib.hid fun k hk => g5 k (by omega)
        have HPL : Hid (ps.length = x45) := by show _ = _; rw [g2, hl1]
        have HLL := Lib.hid hl1
        clear g1 g2 g3 g4 g5 hl1 hl2 hl2' hI1 HSM
        go_upto_block 5 with (first
          | (go_at_call 17; refine (HSL.out _ _ _ hs7 ((hsL.below hb6).below hb7)).mono ?_; rintro e w8 ⟨rfl, hb8'⟩)
          | (go_at_call 22; refine (HBF.out _ _ hs6).mono ?_; rintro e w7 ⟨aB, cB, rfl, hs7, hb7⟩; replace hs7 := SlR.own hs7)
          | (go_at_call 21; refine HFR.out.mono ?_; rintro e w6 ⟨aP, cP, rfl, hs6, hb6⟩; replace hs6 := SlR.own hs6))
        have hbP := hb7.trans (hb8'.mono hb7.size)
        have hbL := hb6.trans (hbP.mono hb6.size)
        have hbW := hb8.trans (hbL.mono hb8.size)
        have hsP := hs6.below hbP
        have hsM := hsL.below hbL
        clear HFR HBF HSL hs6 hs7 hsL hb6 hb7 hb8' hb8 hbP hbL
        go_cut [] from 205 to 226 (fun W => Below w.heap.size w W)
        case first =>
          go_wp2_with fail
          go_loopw [28] (fun i W => ∃ k : Nat, (k = 0 ∨ k + 1 ≤ x45) ∧ i = .int .i64 ((k + 1 : Nat) : Int) ∧ Qu w8 W) (fun i _ => x45 - (intOf i).toNat)
          case atStart => exact ⟨0, .inl rfl, rfl, Qu.refl _⟩
          case round =>
            obtain ⟨k, hk, rfl, hq⟩ := hrel
            by_cases hlt : k + 1 < x45
            · obtain ⟨b1, o1, cc1, he1, hn1, hm1, hc1⟩ := sl_ints hsP HPL.out (by omega)
              simp only [Value.slice.injEq] at he1
              obtain ⟨rfl, -, rfl⟩ := he1
              obtain ⟨b2, o2, cc2, he2, hn2, hm2, hc2⟩ := sl_ints hsM HLL.out (by omega)
              simp only [Value.slice.injEq] at he2
              obtain ⟨rfl, -, rfl⟩ := he2
              unfold maxLen at hm1 hm2
              have d1 := hc1 wr hq.keep (k + 1) hlt
              have d2 := hc2 wr hq.keep (k + 1) hlt
              have d3 := hc2 wr hq.keep k (by omega)
              have hg := HG5.out k hlt
              clear hc1 hc2
              generalize ps[k + 1]?.getD 0 = p at *
              generalize ls[k + 1]?.getD 0 = x at *
              generalize ls[k]?.getD 0 = y at *
              have E1 : Hid (((k + 1 : Nat) : Int) + 1 = ((k + 1 + 1 : Nat) : Int)) := by show _ = _; omega
              obtain ⟨q, hq1⟩ : ∃ q, q = k + 1 := ⟨_, rfl⟩
              rw [← hq1] at hlt d1 d2 E1 ⊢
              have HQ1 := Lib.hid hq1
              have f1 : (q : Int) - 1 = (k : Int) := by omega
              have f2 : (1 : Int) ≤ (q : Int) := by omega
              have f3 : (q : Int) ≤ 20 := by omega
              have f4 : decide (q < x45) = true := decide_eq_true hlt
              have f5 : decide (k < x45) = true := decide_eq_true (by omega)
              have f6 : k < x45 := by omega
              clear hq1 hk
              by_cases hxy : x = y
              · rw [decide_eq_true hxy, decide_eq_true_iff] at hg
                have m1 : (p == 0) = true := by rw [hg]; rfl
                have m2 : (x == y) = true := by rw [hxy]; exact beq_self_eq_true y
                clear hg hxy
                go_wp2
                go_quiet (fail)
                go_wp2
                go_roundw
                case rel => exact ⟨k + 1, .inr (by have := HQ1.out; omega), congrArg (Value.int .i64) (by have := HQ1.out; omega), hq.drewN _⟩
                case measure => simp [intOf]; omega
              · rw [decide_eq_false hxy, decide_eq_false_iff_not] at hg
                have m1 : (p == 0) = false := beq_false_of_ne hg
                have m2 : (x == y) = false := beq_false_of_ne hxy
                clear hg hxy
                go_wp2
                go_quiet (fail)
                go_wp2
                go_roundw
                case rel => exact ⟨k + 1, .inr (by have := HQ1.out; omega), congrArg (Value.int .i64) (by have := HQ1.out; omega), hq.drewN _⟩
                case measure => simp [intOf]; omega
            · have hlt' : ¬ ((k + 1 : Nat) : Int) < (x45 : Int) := by omega
              go_wp2
              go_meet
              case rel => exact hbW.trans (hq.keep.mono hbW.size)
        case rest =>
          have hbW2 := hcut
          have hcv := HCV.out wc hcut
          clear hcut hbW HG5 HPL HLL hsP hsM HCV
          obtain ⟨wd, hwd⟩ : ∃ wd : List UInt8, wd = if code.length = 0 then [97] else code := ⟨_, rfl⟩
          have hw1 : 1 ≤ wd.length ∧ wd.length ≤ 48 := by
            have := HNC.out
            rw [hwd]
            split
            · simp
            · omega
          have HWD := Lib.hid hwd
          clear hwd
          go_upto_if 231 with fail
          go_cut [29] from 231 to 231 (fun s29 W => s29 = .string ⟨wd.toArray⟩ ∧ wc = W)
          case first =>
            by_cases hc0 : code.length = 0
            · have hW : Hid (([97] : List UInt8) = wd) := by show _ = _; rw [HWD.out, if_pos hc0]
              have hc1 : (code.length : Int) < 1 := by omega
              go_wp2
              go_meet
              case rel => exact ⟨by rw [← hW.out], rfl⟩
            · have hW : Hid (code = wd) := by show _ = _; rw [HWD.out, if_neg hc0]
              have hc1 : ¬ (code.length : Int) < 1 := by omega
              go_wp2
              go_meet
              case rel => exact ⟨by rw [hW.out], rfl⟩
          case rest =>
            obtain ⟨rfl, rfl⟩ := hcut
            clear HWD HNC hcv
            obtain ⟨hw1, hw2⟩ := hw1
            have hsz : (⟨wd.toArray⟩ : ByteArray).size = wd.length := by show wd.toArray.size = _; rw [List.size_toArray]
            obtain ⟨last, at0, e1, e2, e3, e4, e5⟩ := turns_told ⟨wd.toArray⟩ (by omega) (by omega)
            rw [hsz] at e2 e3
            replace e4 : last.Perm wd := e4
            have HTU : Hid (Calls Tryd.prog 23 #[.string ⟨wd.toArray⟩] wc fun e w' => e = .returned (.tuple #[.string ⟨last.toArray⟩, .int .i64 (at0 : Int), .bool true]) ∧ Below wc.heap.size wc w') := Lib.hid (by
              have := impl_TurnsOf wc ⟨wd.toArray⟩ (by omega) (by omega)
              rw [e1] at this
              exact this)
            have hlz : (⟨last.toArray⟩ : ByteArray).size = last.length := by show last.toArray.size = _; rw [List.size_toArray]
            have HBT : Hid (∀ W, Calls Tryd.prog 24 #[.string ⟨last.toArray⟩, .int .i64 (at0 : Int)] W fun e w' => e = .returned (.tuple #[.string ⟨wd.toArray⟩, .bool true]) ∧ Below W.heap.size W w') := Lib.hid fun W => by
              have := impl_BackOfTurns W ⟨last.toArray⟩ (by omega) (by omega) (at0 : Int) (by unfold I64; omega)
              rw [e5] at this
              exact this
            have HPM := Lib.hid e4
            clear e1 e4 e5 hsz hlz
            obtain ⟨i9, hi9, hz90, hz91, hz92⟩ := info_parts info_intT
            go_upto_block 7 with (first
              | (at_make; refine wpList_make_full _ rfl _ _ 31 rfl w.heap.size 3 i9 (.int .i64 0) 1 Tryd.underlying31 hi9 hz90 hz91 .i64 .i64 _ _ 256 rfl rfl rfl rfl (by rw [hz92]; omega) (by unfold maxLen; omega) hbY.size ?_; intro w7 m7 g7; rw [Nat.mul_one, show (Value.cells (.int .i64 0)) = #[.int .i64 0] from rfl, toList_madeCells_one] at m7)
              | (go_at_call 24; refine (HBT.out _).mono ?_; rintro e w6 ⟨rfl, hb6⟩; have hbY := hbX.trans (hb6.mono hbX.size))
              | (go_at_call 23; refine HTU.out.mono ?_; rintro e w5 ⟨rfl, hb5⟩; have hbX := hbW2.trans (hb5.mono hbW2.size)))
            have hb7 : Below w.heap.size w w7 := Below.grown hbY g7 hbY.size (fun k hk => by cases hk)
            have hgY := hbY.size
            clear HTU HBT hbX hbY g7 hb5 hb6 hbW2 hi9 hz90 hz91 hz92
            generalize w6.heap.size = gq at *
            have HV0 : Hid (cvec (wd.take 0) (last.take 0) = List.replicate 256 (.int .i64 0)) := Lib.hid (cvec_zero (List.Perm.refl _))
            have HVN : Hid (cvec (wd.take wd.length) (last.take wd.length) = List.replicate 256 (.int .i64 0)) := Lib.hid (by
              rw [List.take_length, ← e2, List.take_length]; exact cvec_zero HPM.out)
            have HRI : Hid (∀ k, k < wd.length → ∀ W : World, (Instr.index 9 (.string ⟨wd.toArray⟩) (.int .i64 (k : Int))).run Tryd.prog W = .ok (.int .u8 ((wd[k]?.getD 0).toNat : Int)) W) := Lib.hid fun k hk W => run_index_at wd k hk W
            have HRL : Hid (∀ k, k < wd.length → ∀ W : World, (Instr.index 9 (.string ⟨last.toArray⟩) (.int .i64 (k : Int))).run Tryd.prog W = .ok (.int .u8 ((last[k]?.getD 0).toNat : Int)) W) := Lib.hid fun k hk W => run_index_at last k (by omega) W
            have HTW : Hid (∀ k, k < wd.length → wd.take (k + 1) = wd.take k ++ [wd[k]?.getD 0]) := Lib.hid fun k hk => by
              rw [List.take_succ_eq_append_getElem hk, List.getElem?_eq_getElem hk]; rfl
            have HTL : Hid (∀ k, k < wd.length → last.take (k + 1) = last.take k ++ [last[k]?.getD 0]) := Lib.hid fun k hk => by
              rw [List.take_succ_eq_append_getElem (by omega), List.getElem?_eq_getElem (by omega)]; rfl
            have HBD : Hid (∀ k c, k < wd.length → (-100 ≤ cntD (wd.take k) (last.take k) c ∧ cntD (wd.take k) (last.take k) c ≤ 100) ∧ -100 ≤ cntD (wd.take (k + 1)) (last.take k) c ∧ cntD (wd.take (k + 1)) (last.take k) c ≤ 100) := Lib.hid fun k c hk => by
              have b1 := cntD_bd (wd.take k) (last.take k) c
              have b2 := cntD_bd (wd.take (k + 1)) (last.take k) c
              rw [List.length_take, List.length_take] at b1 b2
              omega
            clear HPM
            go_cut [] from 245 to 273 (fun W => W.ownsRow w.heap.size 3 1 (.slice (some ⟨gq, 0, none⟩) 256 256) 256 (List.replicate 256 (.int .i64 0)) ∧ Below w.heap.size w W)
            case first =>
              rw [← HV0.out] at m7
              go_wp2_with fail
              go_loopw [36] (fun i W => ∃ k : Nat, k ≤ wd.length ∧ i = .int .i64 (k : Int) ∧ W.ownsRow w.heap.size 3 1 (.slice (some ⟨gq, 0, none⟩) 256 256) 256 (cvec (wd.take k) (last.take k)) ∧ Below w.heap.size w W) (fun i _ => wd.length - (intOf i).toNat)
              case atStart => exact ⟨0, Nat.zero_le _, rfl, m7, hb7⟩
              case round =>
                clear m7 hb7
                obtain ⟨k, hk, rfl, hown, hb⟩ := hrel
                by_cases hlt : k < wd.length
                · have r1 := HRI.out k hlt
                  have r2 := HRL.out k hlt
                  obtain ⟨⟨b1, b2⟩, -⟩ := HBD.out k (wd[k]?.getD 0).toNat hlt
                  obtain ⟨-, b3, b4⟩ := HBD.out k (last[k]?.getD 0).toNat hlt
                  have hx256 := (wd[k]?.getD 0).toNat_lt
                  have hy256 := (last[k]?.getD 0).toNat_lt
                  have d1 := hown.cellAt (wd[k]?.getD 0).toNat (by omega)
                  rw [cvec_get _ _ (by omega)] at d1
                  have f1 := hown.frozenAt (wd[k]?.getD 0).toNat
                  have hown1 := (hown.stored (wd[k]?.getD 0).toNat (.int .i64 (cntD (wd.take k) (last.take k) (wd[k]?.getD 0).toNat + 1))).1
                  rw [cvec_inc, ← HTW.out k hlt] at hown1
                  have d2 := hown1.cellAt (last[k]?.getD 0).toNat (by omega)
                  rw [cvec_get _ _ (by omega)] at d2
                  have f2 := hown1.frozenAt (last[k]?.getD 0).toNat
                  have hown2 := (hown1.stored (last[k]?.getD 0).toNat (.int .i64 (cntD (wd.take (k + 1)) (last.take k) (last[k]?.getD 0).toNat - 1))).1
                  rw [cvec_dec, ← HTL.out k hlt] at hown2
                  have HO2 := Lib.hid hown2
                  have hbA := (hb.setCell (p := ⟨gq, (wd[k]?.getD 0).toNat, none⟩) hgY (.int .i64 (cntD (wd.take k) (last.take k) (wd[k]?.getD 0).toNat + 1)))
                  clear hown hown1 hown2
                  generalize cntD (wd.take k) (last.take k) (wd[k]?.getD 0).toNat = z1 at *
                  generalize cntD (wd.take (k + 1)) (last.take k) (last[k]?.getD 0).toNat = z2 at *
                  generalize (wd[k]?.getD 0).toNat = x at *
                  generalize (last[k]?.getD 0).toNat = y at *
                  have D2 := Lib.hid d2
                  have F2 := Lib.hid f2
                  clear d2 f2
                  go_upto_region 64 with fail
                  have d2 := D2.out
                  have f2 := F2.out
                  clear D2 F2 d1 f1
                  generalize wr.setCell ⟨gq, x, none⟩ (.int .i64 (z1 + 1)) = w1 at *
                  go_wp2
                  go_roundw
                  case rel => exact ⟨k + 1, by omega, by go_num, HO2.out, hbA.setCell hgY _⟩
                  case measure => simp [intOf]; omega
                · obtain rfl : k = wd.length := by omega
                  rw [HVN.out] at hown
                  go_wp2
                  go_meet
                  case rel => exact ⟨hown, hb⟩
            case rest =>
              obtain ⟨hown, hb⟩ := hcut
              clear HV0 HVN HRI HRL HTW HTL HBD m7 hb7
              have HCZ : Hid (∀ k, k < 256 → wc.cell? ⟨gq, k, none⟩ = some (.int .i64 0)) := Lib.hid fun k hk => by
                have := hown.cellAt k (by omega)
                rw [List.getElem?_replicate, if_pos hk] at this
                exact this
              clear hown
              have e3' : (at0 : Int) < (wd.length : Int) := by omega
              go_wp2_with fail
              go_loopw [37] (fun i W => ∃ k : Nat, k ≤ 256 ∧ i = .int .i64 (k : Int) ∧ wc = W) (fun i _ => 256 - (intOf i).toNat)
              case atStart => exact ⟨0, Nat.zero_le _, rfl, rfl⟩
              case round =>
                obtain ⟨k, hk, rfl, rfl⟩ := hrel
                by_cases hlt : k < 256
                · have d := HCZ.out k hlt
                  have h256 : (k : Int) < 256 := by omega
                  go_wp2
                  go_roundw
                  case rel => exact ⟨k + 1, by omega, by go_num, by first | rfl | trivial⟩
                  case measure => simp [intOf]; omega
                · obtain rfl : k = 256 := by omega
                  go_wp2
                  go_ret
                  exact ⟨rfl, hb⟩

end Go.Proofs.YtjobgobeiiakgaaDoor
