/- Entropies of lists of rows: the contracts on both sides. -/
import Derived.Test.YtmocfnpbofeiiaaMTbe
import Derived.Test.YtmocfnpbofeiiaaMHmx
namespace Go.Proofs.Ytmocfnpbofeiiaa
set_option linter.unusedSimpArgs false
set_option linter.unusedVariables false
open Go.RowKit

def eo (xs : List Nat) : Nat × Bool := if rowB xs then (fz (entF xs), finB (entF xs)) else (0, false)
theorem eo_no {xs : List Nat} (h : rowB xs = false) : eo xs = (0, false) := by unfold eo; rw [h]; rfl
theorem eo_yes {xs : List Nat} (h : rowB xs = true) : eo xs = (fz (entF xs), finB (entF xs)) := by unfold eo; rw [h]; rfl

set_option maxHeartbeats 1000000 in
theorem implEntropyOf_any (v : Value) (xs : List Nat) (w : World) (hv : SlR w v (xs.map (Value.float .f32))) (hx : ∀ x ∈ xs, x < 4294967296) :
    Calls Try.prog 33 #[v] w fun e w' => e = .returned (.tuple #[.float .f32 (eo xs).1, .bool (eo xs).2]) ∧ Qu w w' := by
  obtain ⟨a, n, c, rfl, -, -, -, -⟩ := SlR.opened 0 hv
  have HX := Lib.hid hx
  clear hx
  generalize hd : rowB xs = d
  have HD := Lib.hid hd
  cases d
  · rw [eo_no hd]
    clear hd
    go_enter Try.func33, Try.ntmps33
    go_wp2_with (go_at_call 50; refine (isRow_any _ xs _ hv HX.out).mono ?_; rw [HD.out]; rintro e w' ⟨rfl, m', rfl⟩)
    go_ret2
    exact ⟨rfl, _, rfl⟩
  · obtain ⟨p1, p2, p3⟩ := rowB_one hd
    have HL : Hid (xs.length ≤ 64) := by show xs.length ≤ 64; omega
    have HE := Lib.hid (one_en p3)
    rw [eo_yes hd]
    clear hd p1 p2 p3
    generalize hen : entF xs = r
    have HR := Lib.hid hen
    clear hen
    go_enter Try.func33, Try.ntmps33
    go_wp2_with (first
      | (go_at_call 50; refine (isRow_any _ xs _ hv HX.out).mono ?_; rw [HD.out]; rintro e w1 ⟨rfl, hqu⟩; have hv2 := hv.below hqu.keep)
      | (go_at_call 80; refine (entropy_any _ xs _ hv2 HE.out HL.out).mono ?_; rw [HR.out]; rintro e w2 ⟨rfl, hqu2⟩)
      | (go_at_call 63; refine (asNumber_any _ _).mono ?_; rintro e w5 ⟨rfl, hqu5⟩))
    go_ret2
    exact ⟨rfl, (hqu.trans hqu2).trans hqu5⟩

def esT (xss : List (List Nat)) : List Nat := xss.map (fun ls => (eo ls).1)
def esOk (xss : List (List Nat)) (wk : Int) : Bool := decide (1 ≤ xss.length) && decide (xss.length ≤ 64) && inB wk 1 8 && xss.all (fun ls => (eo ls).2)
def out_EntropiesShared (xss : List (List Nat)) (wk : Int) : List Nat × Bool := if esOk xss wk then (esT xss, true) else ([], false)
theorem outES_no {xss : List (List Nat)} {wk : Int} (h : esOk xss wk = false) : out_EntropiesShared xss wk = ([], false) := by
  unfold out_EntropiesShared; rw [h]; rfl
theorem outES_yes {xss : List (List Nat)} {wk : Int} (h : esOk xss wk = true) : out_EntropiesShared xss wk = (esT xss, true) := by
  unfold out_EntropiesShared; rw [if_pos h]
theorem len_EntropiesShared (xss : List (List Nat)) (_ : ∀ ls ∈ xss, ∀ x ∈ ls, x < 4294967296) (hl : xss.length + tot xss ≤ 1048576) (wk : Int) (_ : I64 wk) : (out_EntropiesShared xss wk).1.length ≤ 1048576 := by
  unfold out_EntropiesShared
  split
  · show (esT xss).length ≤ _
    unfold esT
    rw [List.length_map]; omega
  · exact Nat.zero_le _
theorem esT_succ (xss : List (List Nat)) (k : Nat) (h : k < xss.length) : (esT (xss.take k)).map (Value.float .f32) ++ [.float .f32 (eo (xss[k]?.getD [])).1] = (esT (xss.take (k + 1))).map (Value.float .f32) := by
  unfold esT
  rw [List.take_succ_eq_append_getElem h, List.map_append, List.map_append, List.getElem?_eq_getElem h]
  rfl

set_option maxRecDepth 100000 in
set_option maxHeartbeats 4000000 in
theorem impl_EntropiesShared (w : World) (u : Value) (xss : List (List Nat)) (hu : MxR w (Value.float .f32) u xss) (hl64 : ∀ ls ∈ xss, ∀ x ∈ ls, x < 4294967296) (_ : xss.length + tot xss ≤ 1048576) (wk : Int) (_ : I64 wk) :
    Calls Try.prog 57 #[u, .int .i64 wk] w (RetSl w 32 (out_EntropiesShared xss wk).1.length ((out_EntropiesShared xss wk).1.map (Value.float .f32)) (fun v => .tuple #[v, .bool (out_EntropiesShared xss wk).2])) := by
  obtain ⟨i0, hi0, hz00, hz01, hz02⟩ := info_parts info_Float32S
  obtain ⟨res, hres⟩ : ∃ res, res = out_EntropiesShared xss wk := ⟨_, rfl⟩
  rw [← hres]
  obtain ⟨a, n, c, rfl, hnl, hnc, hcm, hcell⟩ := MxR.opened hu
  unfold maxLen at hcm
  have hn9 : n ≤ 9223372036854775807 := by omega
  have HCL := Lib.hid hcell
  clear hnc hcm hcell
  by_cases h1 : 1 ≤ n
  · have h5 : ¬ (n : Int) < 1 := by omega
    by_cases h16 : n ≤ 64
    · have h6 : ¬ (64 : Int) < (n : Int) := by omega
      generalize hin : inB wk 1 8 = q
      have HI := Lib.hid hin
      cases q
      · have HR : Hid (res = ([], false)) := by show res = _; rw [hres, outES_no (by rw [esOk, hin]; simp)]
        clear hres hnl hu hin hl64
        go_enter Try.func57, Try.ntmps57
        go_wp2_with (go_at_call 60; refine (within_any _ _ _ _).mono ?_; rw [HI.out]; rintro e w' ⟨rfl, rfl⟩)
        go_ret2
        rw [HR.out]
        exact ⟨none, 0, rfl, World.ownsRow_nil _ _ _ _, Below.refl _ _⟩
      · have HBAD : Hid (∀ k, k < n → (eo (xss[k]?.getD [])).2 = false → res = ([], false)) := by
          show ∀ k, _
          intro k hk hf
          have : xss.all (fun ls => (eo ls).2) = false := all_false_of xss _ k [] (by omega) hf
          rw [hres, outES_no (by rw [esOk, this]; simp)]
        have HGOOD : Hid (xss.all (fun ls => (eo ls).2) = true → res = (esT xss, true)) := by
          intro h
          rw [hres, outES_yes (by rw [esOk, hin, h, hnl, decide_eq_true h16, decide_eq_true h1]; rfl)]
        have HEN : Hid (∀ k, k < n → ∀ W U, SlR W U ((xss[k]?.getD []).map (Value.float .f32)) → Calls Try.prog 33 #[U] W fun e w' => e = .returned (.tuple #[.float .f32 (eo (xss[k]?.getD [])).1, .bool (eo (xss[k]?.getD [])).2]) ∧ Qu W w') := by
          show ∀ k, _
          intro k hk W U h2
          have hm : xss[k]?.getD [] ∈ xss := by rw [List.getElem?_eq_getElem (by omega)]; exact List.getElem_mem _
          exact implEntropyOf_any U _ W h2 (hl64 _ hm)
        have HS : Hid (∀ k, k < n → (esT (xss.take k)).map (Value.float .f32) ++ [.float .f32 (eo (xss[k]?.getD [])).1] = (esT (xss.take (k + 1))).map (Value.float .f32)) := fun k hk => esT_succ xss k (by omega)
        have HAS : Hid (∀ k, k < n → (xss.take (k + 1)).all (fun ls => (eo ls).2) = ((xss.take k).all (fun ls => (eo ls).2) && (eo (xss[k]?.getD [])).2)) := fun k hk => all_take_succ xss _ k [] (by omega)
        have HALL : Hid (xss.take n = xss) := List.take_of_length_le (by omega)
        have HN := Lib.hid hnl
        clear hres hnl hu hin hl64
        go_enter Try.func57, Try.ntmps57
        go_wp2_with (go_at_call 60; refine (within_any _ _ _ _).mono ?_; rw [HI.out]; rintro e w1 ⟨rfl, rfl⟩)
        have hown0 : (w.alloc (.cells #[] 32)).ownsRow w.heap.size 32 1 (.slice (some ⟨w.heap.size, 0, none⟩) 0 0) 0 [] := World.ownsRow_made w #[] 0 (Nat.le_refl _) (Nat.zero_le _) rfl
        have hbb0 : Below w.heap.size w (w.alloc (.cells #[] 32)) := by go_grown
        go_loopw [6, 27] (fun o i wr => ∃ k : Nat, k ≤ n ∧ i = .int .i64 k ∧ wr.ownsRow w.heap.size 32 1 o k ((esT (xss.take k)).map (Value.float .f32)) ∧ Below w.heap.size w wr ∧ (xss.take k).all (fun ls => (eo ls).2) = true) (fun _ i _ => n - (intOf i).toNat)
        case atStart => exact ⟨0, Nat.zero_le _, rfl, hown0, hbb0, rfl⟩
        case round =>
          clear hown0 hbb0
          obtain ⟨k, hk, rfl, hown, hb, hall⟩ := hrel
          have HA := Lib.hid hall
          clear hall
          have hbs := hb.size
          by_cases hlt : k < n
          · obtain ⟨bb, off, ea, ec, rfl, hc0, hbl, hs0, hm⟩ := HCL.out k hlt
            have hcc := (hb.cell (p := ⟨bb, off + k, none⟩) hbl).trans hc0
            have HEK : Hid (∀ W, Below w.heap.size w W → Calls Try.prog 33 #[.slice ea (xss[k]?.getD []).length ec] W fun e w' => e = .returned (.tuple #[.float .f32 (eo (xss[k]?.getD [])).1, .bool (eo (xss[k]?.getD [])).2]) ∧ Qu W w') :=
              fun W hW => HEN.out k hlt W _ (hs0.below hW)
            have HSK := Lib.hid (HS.out k hlt)
            have HAK := Lib.hid (HAS.out k hlt)
            have HBK := Lib.hid (HBAD.out k hlt)
            clear hc0 hs0 hm
            generalize (xss[k]?.getD []).length = m at *
            obtain ⟨⟨tx, ok⟩, hen⟩ : ∃ e, eo (xss[k]?.getD []) = e := ⟨_, rfl⟩
            rw [hen] at HEK HSK HAK HBK
            clear hen
            dsimp only at HEK HSK HAK HBK
            cases ok
            · go_wp2_with (go_at_call 33; refine (HEK.out _ hb).mono ?_; rintro e w2 ⟨rfl, hq2⟩; have hb2 := hq2.keep)
              go_ret2
              rw [HBK.out trivial]
              exact ⟨none, 0, rfl, World.ownsRow_nil _ _ _ _, hb.trans (hb2.mono hbs)⟩
            · go_wp2_with (first | (go_at_call 33; refine (HEK.out _ hb).mono ?_; rintro e w2 ⟨rfl, hq2⟩; have hb2 := hq2.keep; have hown2 := ownsRow_below hown hb2; have hbb2 := hb.trans (hb2.mono hbs); have hbs2 := hbb2.size) | (at_builtin; refine wpList_append_own _ rfl _ _ 25 rfl w.heap.size 32 i0 (.float .f32 0) 1 4 Try.underlying25 hi0 hz00 hz01 hz02 rfl (by decide) u6 _ _ rfl (hown2.alloc _) ⟨(World.heap w2).size, 0, none⟩ 1 1 [.float .f32 tx] rfl rfl (cell_one_new _ _ _) (one_oneCell rfl) (by unfold maxLen; omega) (by omega) (by simp only [World.size_alloc]; have := hbb2.size; omega) ?_; intro v1 w3 hown3 hgx _; have hb4 := app_below hbb2 (by have := hbb2.size; omega) _ hgx hown2 (by omega)))
              rw [HSK.out] at hown3
              go_roundw
              case rel => exact ⟨k + 1, by omega, by go_num, hown3, hb4, by rw [HAK.out, HA.out]; rfl⟩
              case measure => simp [intOf]; omega
          · obtain rfl : n = k := by omega
            have hg := HA.out
            rw [HALL.out] at hg hown
            have HG := Lib.hid (HGOOD.out hg)
            clear hg
            go_wp2
            go_ret2
            rw [HG.out]
            have e : (esT xss).length = n := by unfold esT; rw [List.length_map, HN.out]
            dsimp only
            rw [e]
            exact RetSl.of (f := fun v => .tuple #[v, .bool true]) hown hb
    · have h6 : (64 : Int) < (n : Int) := by omega
      have HR : Hid (res = ([], false)) := by show res = _; rw [hres, outES_no (by rw [esOk, hnl, decide_eq_false h16]; simp)]
      clear hres hnl hu hl64
      go_enter Try.func57, Try.ntmps57
      go_wp2_with fail
      go_ret2
      rw [HR.out]
      exact ⟨none, 0, rfl, World.ownsRow_nil _ _ _ _, Below.refl _ _⟩
  · have h5 : (n : Int) < 1 := by omega
    have HR : Hid (res = ([], false)) := by show res = _; rw [hres, outES_no (by rw [esOk, hnl, decide_eq_false h1]; rfl)]
    clear hres hnl hu hl64
    go_enter Try.func57, Try.ntmps57
    go_wp2_with fail
    go_ret2
    rw [HR.out]
    exact ⟨none, 0, rfl, World.ownsRow_nil _ _ _ _, Below.refl _ _⟩

end Go.Proofs.Ytmocfnpbofeiiaa
