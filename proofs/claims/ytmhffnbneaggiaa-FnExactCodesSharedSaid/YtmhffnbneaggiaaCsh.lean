/- The codes of lists of letters: the contracts on both sides. -/
import Derived.Test.YtmhffnbneaggiaaEns
import Derived.Test.YtmhffnbneaggiaaHrs
import Derived.Test.YtmhffnbneaggiaaHrc
import Derived.Test.YtmhffnbneaggiaaHmx
namespace Go.Proofs.Ytmhffnbneaggiaa
set_option linter.unusedSimpArgs false
set_option linter.unusedVariables false
open Go.RowKit

def shT (xs : List Int) (xss : List (List Int)) : List ByteArray := xss.map (fun ls => (encT xs ls).1)
def out_CodesShared (xs : List Int) (xss : List (List Int)) (wk : Int) : List ByteArray × Bool :=
  if (validC xs && decide (xss.length ≤ 16) && inB wk 1 8 && xss.all (fun ls => (encT xs ls).2)) then (shT xs xss, true) else ([], false)
theorem outCS_no {xs : List Int} {xss : List (List Int)} {wk : Int} (h : (validC xs && decide (xss.length ≤ 16) && inB wk 1 8 && xss.all (fun ls => (encT xs ls).2)) = false) : out_CodesShared xs xss wk = ([], false) := by
  unfold out_CodesShared; rw [h]; rfl
theorem outCS_yes {xs : List Int} {xss : List (List Int)} {wk : Int} (h : (validC xs && decide (xss.length ≤ 16) && inB wk 1 8 && xss.all (fun ls => (encT xs ls).2)) = true) : out_CodesShared xs xss wk = (shT xs xss, true) := by
  unfold out_CodesShared; rw [if_pos h]
theorem len_CodesShared (xs : List Int) (_ : ∀ x ∈ xs, I64 x) (_ : xs.length ≤ 1048576) (xss : List (List Int)) (_ : ∀ ls ∈ xss, ∀ x ∈ ls, I64 x) (hl : xss.length + tot xss ≤ 1048576) (wk : Int) (_ : I64 wk) : (out_CodesShared xs xss wk).1.length ≤ 1048576 := by
  unfold out_CodesShared
  split
  · show (shT xs xss).length ≤ _
    unfold shT
    rw [List.length_map]; omega
  · exact Nat.zero_le _
theorem shT_succ (xs : List Int) (xss : List (List Int)) (k : Nat) (h : k < xss.length) : (shT xs (xss.take k)).map Value.string ++ [.string (encT xs (xss[k]?.getD [])).1] = (shT xs (xss.take (k + 1))).map Value.string := by
  unfold shT
  rw [List.take_succ_eq_append_getElem h, List.map_append, List.map_append, List.getElem?_eq_getElem h]
  rfl

set_option maxRecDepth 100000 in
set_option maxHeartbeats 4000000 in
theorem impl_CodesShared (w : World) (v : Value) (xs : List Int) (hv : SlR w v (xs.map (Value.int .i64))) (hx64 : ∀ x ∈ xs, I64 x) (hxl : xs.length ≤ 1048576) (u : Value) (xss : List (List Int)) (hu : MxR w (Value.int .i64) u xss) (hl64 : ∀ ls ∈ xss, ∀ x ∈ ls, I64 x) (hll : xss.length + tot xss ≤ 1048576) (wk : Int) (_ : I64 wk) :
    Calls Try.prog 34 #[.agg #[v], u, .int .i64 wk] w (RetSl w 9 (out_CodesShared xs xss wk).1.length ((out_CodesShared xs xss wk).1.map Value.string) (fun v => .tuple #[v, .bool (out_CodesShared xs xss wk).2])) := by
  obtain ⟨i0, hi0, hz00, hz01, hz02⟩ := info_parts info_str
  obtain ⟨res, hres⟩ : ∃ res, res = out_CodesShared xs xss wk := ⟨_, rfl⟩
  rw [← hres]
  have hb0 : Below w.heap.size w (w.alloc (.cells #[v] 24)) := by go_grown
  have hv1 := hv.below hb0
  have hu1 := hu.below hb0
  have hc : (w.alloc (.cells #[v] 24)).cell? ⟨w.heap.size, 0, none⟩ = some v := by simp
  have HB := Lib.hid hb0
  have HC := Lib.hid hc
  obtain ⟨a, n, c, rfl, hnl, hnc, hcm, -⟩ := MxR.opened hu
  unfold maxLen at hcm
  have hn9 : n ≤ 9223372036854775807 := by omega
  clear hb0 hc hnc hcm
  generalize ht : validC xs = t
  have HT := Lib.hid ht
  cases t
  · have HR : Hid (res = ([], false)) := by show res = _; rw [hres, outCS_no (by rw [ht]; rfl)]
    clear ht hres hnl hv hu hll
    go_enter Try.func34, Try.ntmps34
    go_wp2_with (go_at_call 63; refine (implValidCode_any _ xs _ hv1).mono ?_; rw [HT.out]; rintro e w1 ⟨rfl, hb⟩)
    go_ret2
    rw [HR.out]
    exact ⟨none, 0, rfl, World.ownsRow_nil _ _ _ _, HB.out.trans (hb.mono (by simp))⟩
  · by_cases h16 : n ≤ 16
    · have h6 : ¬ (16 : Int) < (n : Int) := by omega
      generalize hin : inB wk 1 8 = q
      have HI := Lib.hid hin
      cases q
      · have HR : Hid (res = ([], false)) := by show res = _; rw [hres, outCS_no (by rw [hin]; simp)]
        clear ht hres hnl hv hu hll hin
        go_enter Try.func34, Try.ntmps34
        go_wp2_with (first | (go_at_call 63; refine (implValidCode_any _ xs _ hv1).mono ?_; rw [HT.out]; rintro e w1 ⟨rfl, hb⟩) | (go_at_call 57; refine (within_any _ _ _ _).mono ?_; rw [HI.out]; rintro e w' ⟨rfl, rfl⟩))
        go_ret2
        rw [HR.out]
        exact ⟨none, 0, rfl, World.ownsRow_nil _ _ _ _, HB.out.trans (hb.mono (by simp))⟩
      · have HBAD : Hid (∀ k, k < n → (encT xs (xss[k]?.getD [])).2 = false → res = ([], false)) := by
          show ∀ k, _
          intro k hk hf
          have : xss.all (fun ls => (encT xs ls).2) = false := all_false_of xss _ k [] (by omega) hf
          rw [hres, outCS_no (by rw [this]; simp)]
        have HGOOD : Hid (xss.all (fun ls => (encT xs ls).2) = true → res = (shT xs xss, true)) := by
          intro h
          rw [hres, outCS_yes (by rw [ht, hin, h, hnl, decide_eq_true h16]; rfl)]
        have HEN : Hid (∀ k, k < n → ∀ W U, SlR W v (xs.map (Value.int .i64)) → SlR W U ((xss[k]?.getD []).map (Value.int .i64)) → Calls Try.prog 25 #[.agg #[v], U] W fun e w' => e = .returned (.tuple #[.string (encT xs (xss[k]?.getD [])).1, .bool (encT xs (xss[k]?.getD [])).2]) ∧ Below W.heap.size W w') := by
          show ∀ k, _
          intro k hk W U h1 h2
          have hm : xss[k]?.getD [] ∈ xss := by rw [List.getElem?_eq_getElem (by omega)]; exact List.getElem_mem _
          have h := impl_EncodeLetters W v xs h1 hx64 hxl U _ h2 (hl64 _ hm) (by have := tot_mem xss k; omega)
          rw [out_EncodeLetters, if_pos ht] at h
          exact h
        have HS : Hid (∀ k, k < n → (shT xs (xss.take k)).map Value.string ++ [.string (encT xs (xss[k]?.getD [])).1] = (shT xs (xss.take (k + 1))).map Value.string) := fun k hk => shT_succ xs xss k (by omega)
        have HAS : Hid (∀ k, k < n → (xss.take (k + 1)).all (fun ls => (encT xs ls).2) = ((xss.take k).all (fun ls => (encT xs ls).2) && (encT xs (xss[k]?.getD [])).2)) := fun k hk => all_take_succ xss _ k [] (by omega)
        have HALL : Hid (xss.take n = xss) := List.take_of_length_le (by omega)
        have HN := Lib.hid hnl
        clear ht hres hnl hv hu hll hin hl64 hx64 hxl
        go_enter Try.func34, Try.ntmps34
        go_wp2_with (first | (go_at_call 63; refine (implValidCode_any _ xs _ hv1).mono ?_; rw [HT.out]; rintro e w1 ⟨rfl, hb⟩; have hv2 := hv1.below hb; have hu2 := hu1.below hb; have hc1 := cell_step HC.out hb) | (go_at_call 57; refine (within_any _ _ _ _).mono ?_; rw [HI.out]; rintro e w2 ⟨rfl, rfl⟩))
        have hb3 : Below w.heap.size w w1 := HB.out.trans (hb.mono (by simp))
        obtain ⟨a', n', c', hsl, hnl', -, -, hcell⟩ := MxR.opened hu2
        rw [HN.out] at hnl'
        subst hnl'
        simp only [Value.slice.injEq, true_and] at hsl
        obtain ⟨rfl, rfl⟩ := hsl
        have HCL := Lib.hid hcell
        have HV := Lib.hid hv2
        have HC1 := Lib.hid hc1
        clear hcell hv2 hu2 hc1 hb hv1 hu1
        have hown0 : (w1.alloc (.cells #[] 9)).ownsRow w1.heap.size 9 1 (.slice (some ⟨w1.heap.size, 0, none⟩) 0 0) 0 [] := World.ownsRow_made w1 #[] 0 (Nat.le_refl _) (Nat.zero_le _) rfl
        have hbb0 : Below w1.heap.size w1 (w1.alloc (.cells #[] 9)) := by go_grown
        go_loopw [8, 29] (fun o i wr => ∃ k : Nat, k ≤ n ∧ i = .int .i64 k ∧ wr.ownsRow w1.heap.size 9 1 o k ((shT xs (xss.take k)).map Value.string) ∧ Below w1.heap.size w1 wr ∧ (xss.take k).all (fun ls => (encT xs ls).2) = true) (fun _ i _ => n - (intOf i).toNat)
        case atStart => exact ⟨0, Nat.zero_le _, rfl, hown0, hbb0, rfl⟩
        case round =>
          clear hown0 hbb0
          obtain ⟨k, hk, rfl, hown, hb, hall⟩ := hrel
          have HA := Lib.hid hall
          clear hall
          have hbs := hb.size
          by_cases hlt : k < n
          · obtain ⟨bb, off, ea, ec, rfl, hc0, hbl, hs0, hm⟩ := HCL.out k hlt
            have hcc := (hb.cell (p := ⟨bb, off + k, none⟩) hbl).trans hc0
            have hc2 := cell_step HC1.out hb
            have HEK : Hid (∀ W, Below w1.heap.size w1 W → Calls Try.prog 25 #[.agg #[v], .slice ea (xss[k]?.getD []).length ec] W fun e w' => e = .returned (.tuple #[.string (encT xs (xss[k]?.getD [])).1, .bool (encT xs (xss[k]?.getD [])).2]) ∧ Below W.heap.size W w') :=
              fun W hW => HEN.out k hlt W _ (HV.out.below hW) (hs0.below hW)
            have HSK := Lib.hid (HS.out k hlt)
            have HAK := Lib.hid (HAS.out k hlt)
            have HBK := Lib.hid (HBAD.out k hlt)
            clear hc0 hs0 hm
            generalize (xss[k]?.getD []).length = m at *
            obtain ⟨⟨tx, ok⟩, hen⟩ : ∃ e, encT xs (xss[k]?.getD []) = e := ⟨_, rfl⟩
            rw [hen] at HEK HSK HAK HBK
            clear hen
            dsimp only at HEK HSK HAK HBK
            cases ok
            · go_wp2_with (go_at_call 25; refine (HEK.out _ hb).mono ?_; rintro e w2 ⟨rfl, hb2⟩)
              go_ret2
              rw [HBK.out trivial]
              exact ⟨none, 0, rfl, World.ownsRow_nil _ _ _ _, hb3.trans ((hb.trans (hb2.mono hbs)).mono hb3.size)⟩
            · go_wp2_with (first | (go_at_call 25; refine (HEK.out _ hb).mono ?_; rintro e w2 ⟨rfl, hb2⟩; have hown2 := ownsRow_below hown hb2; have hbb2 := hb.trans (hb2.mono hbs); have hbs2 := hbb2.size) | (at_builtin; refine wpList_append_own _ rfl _ _ 44 rfl w1.heap.size 9 i0 (.string ⟨#[]⟩) 1 16 Try.underlying44 hi0 hz00 hz01 hz02 rfl (by decide) u8 _ _ rfl (hown2.alloc _) ⟨(World.heap w2).size, 0, none⟩ 1 1 [.string tx] rfl rfl (cell_one_new _ _ _) (one_oneCell rfl) (by unfold maxLen; omega) (by omega) (by simp only [World.size_alloc]; have := hbb2.size; omega) ?_; intro v1 w3 hown3 hgx _; have hb4 := app_below hbb2 (by have := hbb2.size; omega) _ hgx hown2 (by omega)))
              rw [HSK.out] at hown3
              go_roundw
              case rel => exact ⟨k + 1, by omega, by go_num, hown3, hb4, by rw [HAK.out, HA.out]; rfl⟩
              case measure => simp [intOf]; omega
          · obtain rfl : n = k := by omega
            have hg := HA.out
            rw [HALL.out] at hg hown
            have HG := Lib.hid (HGOOD.out hg)
            clear hg
            go_wp2
            go_ret2
            rw [HG.out]
            have e : (shT xs xss).length = n := by unfold shT; rw [List.length_map, HN.out]
            dsimp only
            rw [e]
            exact RetSl.of (f := fun v => .tuple #[v, .bool true]) (ownsRow_base hown hb3.size) (hb3.trans (hb.mono hb3.size))
    · have h6 : (16 : Int) < (n : Int) := by omega
      have HR : Hid (res = ([], false)) := by show res = _; rw [hres, outCS_no (by rw [hnl, decide_eq_false h16]; simp)]
      clear ht hres hnl hv hu hll
      go_enter Try.func34, Try.ntmps34
      go_wp2_with (go_at_call 63; refine (implValidCode_any _ xs _ hv1).mono ?_; rw [HT.out]; rintro e w1 ⟨rfl, hb⟩)
      go_ret2
      rw [HR.out]
      exact ⟨none, 0, rfl, World.ownsRow_nil _ _ _ _, HB.out.trans (hb.mono (by simp))⟩

set_option maxRecDepth 100000 in
set_option maxHeartbeats 4000000 in
theorem spec_CodesShared (w : World) (v : Value) (xs : List Int) (hv : SlR w v (xs.map (Value.int .i64))) (_ : ∀ x ∈ xs, I64 x) (_ : xs.length ≤ 1048576) (u : Value) (xss : List (List Int)) (hu : MxR w (Value.int .i64) u xss) (_ : ∀ ls ∈ xss, ∀ x ∈ ls, I64 x) (hll : xss.length + tot xss ≤ 1048576) (wk : Int) (_ : I64 wk) :
    Calls Try.prog 32 #[.agg #[v], u, .int .i64 wk] w (RetRd w (out_CodesShared xs xss wk).1.length ((out_CodesShared xs xss wk).1.map Value.string) (fun v => .tuple #[v, .bool (out_CodesShared xs xss wk).2])) := by
  obtain ⟨i0, hi0, hz00, hz01, hz02⟩ := info_parts info_str
  obtain ⟨res, hres⟩ : ∃ res, res = out_CodesShared xs xss wk := ⟨_, rfl⟩
  rw [← hres]
  have hb0 : Below w.heap.size w (w.alloc (.cells #[v] 24)) := by go_grown
  have hv1 := hv.below hb0
  have hu1 := hu.below hb0
  have hc : (w.alloc (.cells #[v] 24)).cell? ⟨w.heap.size, 0, none⟩ = some v := by simp
  have HB := Lib.hid hb0
  have HC := Lib.hid hc
  obtain ⟨a, n, c, rfl, hnl, hnc, hcm, -⟩ := MxR.opened hu
  unfold maxLen at hcm
  have hn9 : n ≤ 9223372036854775807 := by omega
  clear hb0 hc hnc hcm
  generalize ht : validC xs = t
  have HT := Lib.hid ht
  cases t
  · have HR : Hid (res = ([], false)) := by show res = _; rw [hres, outCS_no (by rw [ht]; rfl)]
    clear ht hres hnl hv hu hll
    go_enter Try.func32, Try.ntmps32
    go_wp2_with (go_at_call 61; refine (l04Is_any _ _ xs _ HC.out hv1).mono ?_; rw [HT.out]; rintro e w1 ⟨rfl, hq⟩; have hb := hq.keep)
    go_ret2
    rw [HR.out]
    exact ⟨none, 0, rfl, SlR.nil _, HB.out.trans (hb.mono (by simp))⟩
  · by_cases h16 : n ≤ 16
    · have h6 : ¬ (16 : Int) < (n : Int) := by omega
      generalize hin : inB wk 1 8 = q
      have HI := Lib.hid hin
      cases q
      · have HR : Hid (res = ([], false)) := by show res = _; rw [hres, outCS_no (by rw [hin]; simp)]
        clear ht hres hnl hv hu hll hin
        go_enter Try.func32, Try.ntmps32
        go_wp2_with (first | (go_at_call 61; refine (l04Is_any _ _ xs _ HC.out hv1).mono ?_; rw [HT.out]; rintro e w1 ⟨rfl, hq⟩; have hb := hq.keep) | (go_at_call 56; refine (l00In_any _ _ _ _).mono ?_; rw [HI.out]; rintro e w' ⟨rfl, rfl⟩))
        go_ret2
        rw [HR.out]
        exact ⟨none, 0, rfl, SlR.nil _, HB.out.trans (hb.mono (by simp))⟩
      · have HBAD : Hid (∀ k, k < n → (encT xs (xss[k]?.getD [])).2 = false → res = ([], false)) := by
          show ∀ k, _
          intro k hk hf
          have : xss.all (fun ls => (encT xs ls).2) = false := all_false_of xss _ k [] (by omega) hf
          rw [hres, outCS_no (by rw [this]; simp)]
        have HGOOD : Hid (xss.all (fun ls => (encT xs ls).2) = true → res = (shT xs xss, true)) := by
          intro h
          rw [hres, outCS_yes (by rw [ht, hin, h, hnl, decide_eq_true h16]; rfl)]
        have HEN : Hid (∀ k, k < n → ∀ W U, W.cell? ⟨w.heap.size, 0, none⟩ = some v → SlR W v (xs.map (Value.int .i64)) → SlR W U ((xss[k]?.getD []).map (Value.int .i64)) → Calls Try.prog 62 #[.pointer (some ⟨w.heap.size, 0, none⟩), U] W fun e w' => e = .returned (.tuple #[.string (encT xs (xss[k]?.getD [])).1, .bool (encT xs (xss[k]?.getD [])).2]) ∧ Below W.heap.size W w') := by
          show ∀ k, _
          intro k hk W U h0 h1 h2
          exact l04Encode_any _ W v xs h0 h1 ht U _ h2
        have HS : Hid (∀ k, k < n → (shT xs (xss.take k)).map Value.string ++ [.string (encT xs (xss[k]?.getD [])).1] = (shT xs (xss.take (k + 1))).map Value.string) := fun k hk => shT_succ xs xss k (by omega)
        have HAS : Hid (∀ k, k < n → (xss.take (k + 1)).all (fun ls => (encT xs ls).2) = ((xss.take k).all (fun ls => (encT xs ls).2) && (encT xs (xss[k]?.getD [])).2)) := fun k hk => all_take_succ xss _ k [] (by omega)
        have HALL : Hid (xss.take n = xss) := List.take_of_length_le (by omega)
        have HN := Lib.hid hnl
        clear ht hres hnl hv hu hll hin
        go_enter Try.func32, Try.ntmps32
        go_wp2_with (first | (go_at_call 61; refine (l04Is_any _ _ xs _ HC.out hv1).mono ?_; rw [HT.out]; rintro e w1 ⟨rfl, hq⟩; have hb := hq.keep; have hv2 := hv1.below hb; have hu2 := hu1.below hb; have hc1 := cell_step HC.out hb) | (go_at_call 56; refine (l00In_any _ _ _ _).mono ?_; rw [HI.out]; rintro e w2 ⟨rfl, rfl⟩))
        have hb3 : Below w.heap.size w w1 := HB.out.trans (hb.mono (by simp))
        obtain ⟨a', n', c', hsl, hnl', -, -, hcell⟩ := MxR.opened hu2
        rw [HN.out] at hnl'
        subst hnl'
        simp only [Value.slice.injEq, true_and] at hsl
        obtain ⟨rfl, rfl⟩ := hsl
        have HCL := Lib.hid hcell
        have HV := Lib.hid hv2
        have HC1 := Lib.hid hc1
        clear hcell hv2 hu2 hc1 hb hv1 hu1
        have hown0 : (w1.alloc (.cells #[] 9)).ownsRow w1.heap.size 9 1 (.slice (some ⟨w1.heap.size, 0, none⟩) 0 0) 0 [] := World.ownsRow_made w1 #[] 0 (Nat.le_refl _) (Nat.zero_le _) rfl
        have hbb0 : Below w1.heap.size w1 (w1.alloc (.cells #[] 9)) := by go_grown
        go_loopw [8, 9] (fun o i wr => ∃ k : Nat, k ≤ n ∧ i = .int .i64 k ∧ wr.ownsRow w1.heap.size 9 1 o k ((shT xs (xss.take k)).map Value.string) ∧ Below w1.heap.size w1 wr ∧ (xss.take k).all (fun ls => (encT xs ls).2) = true) (fun _ i _ => n - (intOf i).toNat)
        case atStart => exact ⟨0, Nat.zero_le _, rfl, hown0, hbb0, rfl⟩
        case round =>
          clear hown0 hbb0
          obtain ⟨k, hk, rfl, hown, hb, hall⟩ := hrel
          have HA := Lib.hid hall
          clear hall
          have hbs := hb.size
          by_cases hlt : k < n
          · obtain ⟨bb, off, ea, ec, rfl, hc0, hbl, hs0, hm⟩ := HCL.out k hlt
            have hcc := (hb.cell (p := ⟨bb, off + k, none⟩) hbl).trans hc0
            have hc2 := cell_step HC1.out hb
            have HEK : Hid (∀ W, Below w1.heap.size w1 W → Calls Try.prog 62 #[.pointer (some ⟨w.heap.size, 0, none⟩), .slice ea (xss[k]?.getD []).length ec] W fun e w' => e = .returned (.tuple #[.string (encT xs (xss[k]?.getD [])).1, .bool (encT xs (xss[k]?.getD [])).2]) ∧ Below W.heap.size W w') :=
              fun W hW => HEN.out k hlt W _ (cell_step HC1.out hW) (HV.out.below hW) (hs0.below hW)
            have HSK := Lib.hid (HS.out k hlt)
            have HAK := Lib.hid (HAS.out k hlt)
            have HBK := Lib.hid (HBAD.out k hlt)
            clear hc0 hs0 hm
            generalize (xss[k]?.getD []).length = m at *
            obtain ⟨⟨tx, ok⟩, hen⟩ : ∃ e, encT xs (xss[k]?.getD []) = e := ⟨_, rfl⟩
            rw [hen] at HEK HSK HAK HBK
            clear hen
            dsimp only at HEK HSK HAK HBK
            cases ok
            · go_wp2_with (go_at_call 62; refine (HEK.out _ hb).mono ?_; rintro e w2 ⟨rfl, hb2⟩)
              go_ret2
              rw [HBK.out trivial]
              exact ⟨none, 0, rfl, SlR.nil _, hb3.trans ((hb.trans (hb2.mono hbs)).mono hb3.size)⟩
            · go_wp2_with (first | (go_at_call 62; refine (HEK.out _ hb).mono ?_; rintro e w2 ⟨rfl, hb2⟩; have hown2 := ownsRow_below hown hb2; have hbb2 := hb.trans (hb2.mono hbs); have hbs2 := hbb2.size) | (at_builtin; refine wpList_append_own _ rfl _ _ 44 rfl w1.heap.size 9 i0 (.string ⟨#[]⟩) 1 16 Try.underlying44 hi0 hz00 hz01 hz02 rfl (by decide) u8 _ _ rfl (hown2.alloc _) ⟨(World.heap w2).size, 0, none⟩ 1 1 [.string tx] rfl rfl (cell_one_new _ _ _) (one_oneCell rfl) (by unfold maxLen; omega) (by omega) (by simp only [World.size_alloc]; have := hbb2.size; omega) ?_; intro v1 w3 hown3 hgx _; have hb4 := app_below hbb2 (by have := hbb2.size; omega) _ hgx hown2 (by omega)))
              rw [HSK.out] at hown3
              go_roundw
              case rel => exact ⟨k + 1, by omega, by go_num, hown3, hb4, by rw [HAK.out, HA.out]; rfl⟩
              case measure => simp [intOf]; omega
          · obtain rfl : n = k := by omega
            have hg := HA.out
            rw [HALL.out] at hg hown
            have HG := Lib.hid (HGOOD.out hg)
            clear hg
            go_wp2
            go_ret2
            rw [HG.out]
            have e : (shT xs xss).length = n := by unfold shT; rw [List.length_map, HN.out]
            dsimp only
            rw [e]
            exact (RetSl.of (f := fun v => .tuple #[v, .bool true]) (ownsRow_base hown hb3.size) (hb3.trans (hb.mono hb3.size))).rd
    · have h6 : (16 : Int) < (n : Int) := by omega
      have HR : Hid (res = ([], false)) := by show res = _; rw [hres, outCS_no (by rw [hnl, decide_eq_false h16]; simp)]
      clear ht hres hnl hv hu hll
      go_enter Try.func32, Try.ntmps32
      go_wp2_with (go_at_call 61; refine (l04Is_any _ _ xs _ HC.out hv1).mono ?_; rw [HT.out]; rintro e w1 ⟨rfl, hq⟩; have hb := hq.keep)
      go_ret2
      rw [HR.out]
      exact ⟨none, 0, rfl, SlR.nil _, HB.out.trans (hb.mono (by simp))⟩

end Go.Proofs.Ytmhffnbneaggiaa
