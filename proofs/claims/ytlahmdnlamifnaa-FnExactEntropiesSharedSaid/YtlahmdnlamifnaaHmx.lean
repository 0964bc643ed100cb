/- The harness of the laws for slices of slices of numbers. -/
import Derived.Test.YtlahmdnlamifnaaHar
namespace Go.Proofs.Ytlahmdnlamifnaa
set_option linter.unusedSimpArgs false
set_option linter.unusedVariables false
open Go.RowKit

/-- 'v' is a slice of slices that read the lists of 'xss'. -/
def MxR {α : Type} (w : World) (f : α → Value) (v : Value) (xss : List (List α)) : Prop :=
  ∃ vs, SlR w v vs ∧ vs.length = xss.length ∧ ∀ (k : Nat) (xs : List α), xss[k]? = some xs → ∃ u, vs[k]? = some u ∧ SlR w u (xs.map f)
theorem MxR.below {α : Type} {w w' : World} {f : α → Value} {v : Value} {xss : List (List α)} (h : MxR w f v xss) (hb : Below w.heap.size w w') : MxR w' f v xss := by
  obtain ⟨vs, h1, h2, h3⟩ := h
  exact ⟨vs, h1.below hb, h2, fun k xs hx => by obtain ⟨u, a, b⟩ := h3 k xs hx; exact ⟨u, a, b.below hb⟩⟩
theorem MxR.fr {α : Type} {w W : World} {f : α → Value} {v : Value} {xss : List (List α)} (h : MxR w f v xss) (hb : Fr w W) : MxR W f v xss := h.below hb
theorem MxR.opened {α : Type} {w : World} {f : α → Value} {v : Value} {xss : List (List α)} (h : MxR w f v xss) :
    ∃ a n c, v = .slice a n c ∧ xss.length = n ∧ n ≤ c ∧ c ≤ maxLen ∧ ∀ k, k < n → ∃ b off ea ec, a = some ⟨b, off, none⟩ ∧ w.cell? ⟨b, off + k, none⟩ = some (.slice ea (xss[k]?.getD []).length ec) ∧ b < w.heap.size ∧ SlR w (.slice ea (xss[k]?.getD []).length ec) ((xss[k]?.getD []).map f) ∧ (xss[k]?.getD []).length ≤ maxLen := by
  obtain ⟨vs, ⟨a, c, h1, h2, h3, h4⟩, h5, h6⟩ := h
  refine ⟨a, xss.length, c, by rw [h1, h5], rfl, by omega, h3, fun k hk => ?_⟩
  obtain ⟨u, hu, hs⟩ := h6 k xss[k] (List.getElem?_eq_getElem hk)
  obtain ⟨b, off, ha, hc⟩ := h4 k u hu
  obtain ⟨ea, ec, e1, e2, e3, e4⟩ := hs
  rw [List.length_map] at e1 e2
  rw [List.getElem?_eq_getElem hk, Option.getD_some]
  refine ⟨b, off, ea, ec, ha, by rw [hc, e1], World.block_lt_of_cell? w _ hc, ⟨ea, ec, by rw [List.length_map], by rw [List.length_map]; exact e2, e3, by rw [← e1] at *; exact e4⟩, by omega⟩

/-- How many numbers the lists hold. -/
def tot {α : Type} (xss : List (List α)) : Nat := (xss.map List.length).sum
theorem tot_take_succ {α : Type} (xss : List (List α)) (k : Nat) (h : k < xss.length) : tot (xss.take (k + 1)) = tot (xss.take k) + (xss[k]?.getD []).length := by
  unfold tot
  rw [List.take_succ_eq_append_getElem h, List.map_append, List.sum_append]
  simp [List.getElem?_eq_getElem h]
theorem tot_take_le {α : Type} (xss : List (List α)) (k : Nat) : tot (xss.take k) ≤ tot xss := by
  have h : tot (xss.take k) + tot (xss.drop k) = tot xss := by
    unfold tot
    rw [← List.sum_append, ← List.map_append, List.take_append_drop]
  omega
theorem tot_mem {α : Type} (xss : List (List α)) (k : Nat) : (xss[k]?.getD []).length ≤ tot xss := by
  by_cases h : k < xss.length
  · have h1 := tot_take_succ xss k h
    have h2 := tot_take_le xss (k + 1)
    omega
  · rw [List.getElem?_eq_none (by omega)]; exact Nat.zero_le _

/-- 'v' is a slice of the call's own whose cells are slices of its own, which read the lists of 'xss'; all lie in blocks from B to B'. -/
def OwnMx {α : Type} (w : World) (B B' : Nat) (T e : TypeId) (f : α → Value) (v : Value) (xss : List (List α)) : Prop :=
  ∃ vs, w.ownsRow B T 1 v xss.length vs ∧ (∀ (k : Nat) (xs : List α), xss[k]? = some xs → ∃ u, vs[k]? = some u ∧ w.ownsRow B e 1 u xs.length (xs.map f)) ∧
    (∀ (i j : Nat) (u u' : Value) (g : Nat), i < j → vs[i]? = some u → vs[j]? = some u' → u.ownBlock = some g → u'.ownBlock ≠ some g) ∧ (∀ (i : Nat) (u : Value) (g : Nat), vs[i]? = some u → u.ownBlock = some g → v.ownBlock ≠ some g ∧ g < B')
theorem OwnMx.below {α : Type} {w w' : World} {B B' : Nat} {T e : TypeId} {f : α → Value} {v : Value} {xss : List (List α)} (h : OwnMx w B B' T e f v xss) (hb : Below w.heap.size w w') : OwnMx w' B B' T e f v xss := by
  obtain ⟨vs, h1, h2, h3, h4⟩ := h
  exact ⟨vs, ownsRow_below h1 hb, fun k xs hx => by obtain ⟨u, a, b⟩ := h2 k xs hx; exact ⟨u, a, ownsRow_below b hb⟩, h3, h4⟩
theorem OwnMx.rd {α : Type} {w : World} {B B' : Nat} {T e : TypeId} {f : α → Value} {v : Value} {xss : List (List α)} (h : OwnMx w B B' T e f v xss) : MxR w f v xss := by
  obtain ⟨vs, h1, h2, h3, h4⟩ := h
  exact ⟨vs, SlR.own h1, by simpa using h1.1, fun k xs hx => by obtain ⟨u, a, b⟩ := h2 k xs hx; exact ⟨u, a, SlR.own b⟩⟩
/-- What lies from B' on has stayed. -/
def Far (B' : Nat) (w w' : World) : Prop := ∀ k, B' ≤ k → k < w.heap.size → w'.heap[k]? = w.heap[k]?
theorem own_far {w w' : World} {b B' : Nat} {e : TypeId} {s : Nat} {v : Value} {n : Nat} {xs : List Value} (h : w.ownsRow b e s v n xs) (hb : B' ≤ b) (hf : Far B' w w') : w'.ownsRow b e s v n xs := by
  refine ⟨h.1, ?_⟩
  rcases h.2 with h2 | ⟨g, cap, cur, hv, hg, hh, r⟩
  · exact .inl h2
  · exact .inr ⟨g, cap, cur, hv, hg, by rw [hf g (by omega) (Array.getElem?_eq_some_iff.1 hh).1]; exact hh, r⟩
theorem own_kept_ne {w w' : World} {b : Nat} {e : TypeId} {s : Nat} {v u : Value} {n : Nat} {xs : List Value} (h : w.ownsRow b e s v n xs) (hg : w.grownBy w' u.ownBlock) (hne : ∀ g, u.ownBlock = some g → v.ownBlock ≠ some g) : w'.ownsRow b e s v n xs := by
  refine h.kept hg ?_
  cases hv : v.ownBlock with
  | none => exact .inl rfl
  | some g => exact .inr (fun e => hne g e.symm hv)
theorem OwnMx.apart {α : Type} {w w' : World} {B B' : Nat} {T e : TypeId} {f : α → Value} {v u : Value} {xss : List (List α)} (h : OwnMx w B B' T e f v xss) (hg : w.grownBy w' u.ownBlock) (hu : ∀ k, u.ownBlock = some k → k < B) : OwnMx w' B B' T e f v xss := by
  obtain ⟨vs, h1, h2, h3, h4⟩ := h
  exact ⟨vs, own_apart h1 hg hu, fun k xs hx => by obtain ⟨u', a, b⟩ := h2 k xs hx; exact ⟨u', a, own_apart b hg hu⟩, h3, h4⟩

set_option maxHeartbeats 1000000 in
theorem szFloat32SS_any (v : Value) (xss : List (List Nat)) (left : Int) (w : World) (hv : MxR w (Value.float .f32) v xss) (h0 : 0 ≤ left) (h1 : left ≤ 1048576) :
    Calls Try.prog 32 #[v, .int .i64 left] w fun e w' => e = .returned (.int .i64 (if left < (xss.length : Int) + (tot xss : Int) then -1 else left - (xss.length : Int) - (tot xss : Int))) ∧ w' = w := by
  obtain ⟨res, hres⟩ : ∃ res, res = (if left < (xss.length : Int) + (tot xss : Int) then -1 else left - (xss.length : Int) - (tot xss : Int)) := ⟨_, rfl⟩
  rw [← hres]
  obtain ⟨a, n, c, rfl, hnl, hnc, hcm, hcell⟩ := MxR.opened hv
  unfold maxLen at hcm
  have hn9 : n ≤ 9223372036854775807 := by omega
  have HBAD : Hid (left < (n : Int) + (tot xss : Int) → res = -1) := by
    show _ → _
    intro h; rw [hres, hnl, if_pos h]
  have HGOOD : Hid (¬ left < (n : Int) + (tot xss : Int) → res = left - (n : Int) - (tot xss : Int)) := by
    show _ → _
    intro h; rw [hres, hnl, if_neg h]
  have HS : Hid (∀ k, k < n → tot (xss.take (k + 1)) = tot (xss.take k) + (xss[k]?.getD []).length) := fun k hk => tot_take_succ xss k (by omega)
  have HL : Hid (∀ k, tot (xss.take k) ≤ tot xss) := tot_take_le xss
  have HA : Hid (tot (xss.take n) = tot xss) := by show _ = _; rw [List.take_of_length_le (by omega)]
  have HC := Lib.hid hcell
  clear hres hnl hcell hcm hnc hv
  by_cases hlt0 : left < (n : Int)
  · have hx : left - (n : Int) < 0 := by omega
    go_enter Try.func32, Try.ntmps32
    go_wp2
    go_ret
    exact ⟨by rw [HBAD.out (by omega)]; rfl, rfl⟩
  · have hx : ¬ left - (n : Int) < 0 := by omega
    obtain ⟨L0, hL0⟩ : ∃ L0, L0 = left - (n : Int) := ⟨_, rfl⟩
    have HL0 := Lib.hid hL0
    have hLr : 0 ≤ L0 ∧ L0 ≤ 1048576 := by omega
    clear hL0
    go_enter Try.func32, Try.ntmps32
    go_wp2
    go_loop [1, 5] (fun l i => ∃ k : Nat, ∃ lk : Int, k ≤ n ∧ i = .int .i64 k ∧ l = .int .i64 lk ∧ lk = left - (n : Int) - (tot (xss.take k) : Int) ∧ 0 ≤ lk) (fun _ i => n - (intOf i).toNat)
    case atStart => exact ⟨0, left - (n : Int), Nat.zero_le _, rfl, rfl, by simp [tot], by omega⟩
    case round =>
      obtain ⟨k, lk, hk, rfl, rfl, hlk, hl0⟩ := hrel
      have HLK := Lib.hid hlk
      have hl1 : lk ≤ 1048576 := by omega
      clear hlk
      by_cases hlt : k < n
      · obtain ⟨b, off, ea, ec, rfl, hc, hbl, hs, hm⟩ := HC.out k hlt
        unfold maxLen at hm
        have hsk := HS.out k hlt
        have HSK := Lib.hid hsk
        clear hsk hs
        generalize (xss[k]?.getD []).length = m at *
        by_cases hmk : lk < (m : Int)
        · have hneg : (-1 : Int) < 0 := by omega
          go_wp2_with (go_at_call 53; refine (szFloat32S_any _ _ _ _ _ hl0 hl1 (by omega)).mono ?_; rw [if_pos hmk]; rintro e w' ⟨rfl, rfl⟩)
          go_ret
          refine ⟨?_, rfl⟩
          have h2 := HL.out (k + 1)
          have h3 := HLK.out
          have h4 := HSK.out
          rw [HBAD.out (by omega)]; rfl
        · have hpos : ¬ lk - (m : Int) < 0 := by omega
          go_wp2_with (go_at_call 53; refine (szFloat32S_any _ _ _ _ _ hl0 hl1 (by omega)).mono ?_; rw [if_neg hmk]; rintro e w' ⟨rfl, rfl⟩)
          go_round
          case rel => exact ⟨k + 1, lk - (m : Int), by omega, by go_num, by go_num, by have h3 := HLK.out; have h4 := HSK.out; omega, by omega⟩
          case measure => simp [intOf]; omega
      · obtain rfl : n = k := by omega
        go_wp2
        go_ret
        refine ⟨?_, rfl⟩
        have h3 := HLK.out
        rw [HA.out] at h3
        rw [HGOOD.out (by omega), h3]; rfl
theorem szFloat32SS_le (v : Value) (xss : List (List Nat)) (left : Int) (w : World) (hv : MxR w (Value.float .f32) v xss) (h0 : 0 ≤ left) (h1 : left ≤ 1048576) (h : (xss.length : Int) + (tot xss : Int) ≤ left) :
    Calls Try.prog 32 #[v, .int .i64 left] w fun e w' => e = .returned (.int .i64 (left - (xss.length : Int) - (tot xss : Int))) ∧ w' = w := by
  have hh := szFloat32SS_any v xss left w hv h0 h1
  rw [if_neg (by omega)] at hh
  exact hh
theorem szFloat32SS_gt (v : Value) (xss : List (List Nat)) (left : Int) (w : World) (hv : MxR w (Value.float .f32) v xss) (h0 : 0 ≤ left) (h1 : left ≤ 1048576) (h : left < (xss.length : Int) + (tot xss : Int)) :
    Calls Try.prog 32 #[v, .int .i64 left] w fun e w' => e = .returned (.int .i64 (-1)) ∧ w' = w := by
  have hh := szFloat32SS_any v xss left w hv h0 h1
  rw [if_pos h] at hh
  exact hh

set_option maxHeartbeats 1000000 in
theorem eqFloat32SS_same (v u : Value) (xss : List (List Nat)) (w : World) (hv : MxR w (Value.float .f32) v xss) (hu : MxR w (Value.float .f32) u xss)
    (hcall : ∀ (W : World) (x y : Value) (zs : List Nat), SlR W x (zs.map (Value.float .f32)) → SlR W y (zs.map (Value.float .f32)) → zs ∈ xss → Calls Try.prog 28 #[x, y] W fun e w' => e = .returned (.bool true) ∧ Qu W w') :
    Calls Try.prog 36 #[v, u] w fun e w' => e = .returned (.bool true) ∧ Qu w w' := by
  obtain ⟨a, n, c, rfl, hnl, hnc, hcm, hcell⟩ := MxR.opened hv
  obtain ⟨a', n', c', rfl, hnl', hnc', hcm', hcell'⟩ := MxR.opened hu
  obtain rfl : n = n' := by omega
  unfold maxLen at hcm hcm'
  have hn9 : n ≤ 9223372036854775807 := by omega
  have hne : ((n : Int) != (n : Int)) = false := by simp
  have HC := Lib.hid hcell
  have HC' := Lib.hid hcell'
  have HE : Hid (∀ (W : World) (x y : Value) (zs : List Nat), SlR W x (zs.map (Value.float .f32)) → SlR W y (zs.map (Value.float .f32)) → zs ∈ xss → Calls Try.prog 28 #[x, y] W fun e w' => e = .returned (.bool true) ∧ Qu W w') := hcall
  have HM : Hid (∀ k, k < n → xss[k]?.getD [] ∈ xss) := by
    show ∀ k, _
    intro k hk
    rw [List.getElem?_eq_getElem (by omega)]
    exact List.getElem_mem _
  clear hcell hcell' hcall hcm hcm' hnc hnc' hnl hnl' hv hu
  go_enter Try.func36, Try.ntmps36
  go_wp2
  go_loopw [5] (fun i wr => ∃ k : Nat, k ≤ n ∧ i = .int .i64 k ∧ Qu w wr) (fun i _ => n - (intOf i).toNat)
  case atStart => exact ⟨0, Nat.zero_le _, rfl, Qu.refl _⟩
  case round =>
    obtain ⟨k, hk, rfl, hqu⟩ := hrel
    by_cases hlt : k < n
    · obtain ⟨b, off, ea, ec, rfl, hc0, hbl, hs0, hm⟩ := HC.out k hlt
      obtain ⟨b', off', ea', ec', rfl, hc0', hbl', hs0', hm'⟩ := HC'.out k hlt
      have hc := cell_step hc0 (hqu.below _)
      have hc' := cell_step hc0' (hqu.below _)
      have hq : ∀ W, Qu w W → Calls Try.prog 28 #[.slice ea (xss[k]?.getD []).length ec, .slice ea' (xss[k]?.getD []).length ec'] W fun e w' => e = .returned (.bool true) ∧ Qu W w' :=
        fun W hW => HE.out W _ _ _ (hs0.below (hW.below _)) (hs0'.below (hW.below _)) (HM.out k hlt)
      have HQ := Lib.hid hq
      clear hc0 hc0' hs0 hs0' hq hm hm'
      generalize (xss[k]?.getD []).length = m at *
      go_wp2
      go_quiet ((go_at_call 28; exact Calls.quiet_of (HQ.out _ (by first | exact hqu | exact hqu.drewN _))))
      go_wp2
      go_roundw
      case rel => exact ⟨k + 1, by omega, by go_num, hqu.drewN _⟩
      case measure => simp [intOf]; omega
    · obtain rfl : n = k := by omega
      go_wp2
      go_ret
      exact ⟨rfl, hqu⟩

theorem info_Float32SS : (Try.prog.info? 23).map (fun i => (i.zero, i.size, i.bytes)) = some (some (.slice none 0 0), 1, 24) := by kernel_rfl

set_option maxHeartbeats 1000000 in
theorem toFloat32SS_any (v : Value) (xss : List (List Nat)) (w : World) (hv : MxR w (Value.float .f32) v xss) (hn : xss.length + tot xss ≤ 1048576) :
    Calls Try.prog 34 #[v] w fun e w' => ∃ a c, e = .returned (.slice a xss.length c) ∧ OwnMx w' w.heap.size w'.heap.size 23 22 (Value.float .f32) (.slice a xss.length c) xss ∧ Below w.heap.size w w' := by
  obtain ⟨i0, hi, hz0, hz1, hz2⟩ := info_parts info_Float32SS
  obtain ⟨a, n, c, rfl, hnl, hnc, hcm, hcell⟩ := MxR.opened hv
  have hn' : n ≤ 1048576 := by omega
  have HM : Hid (∀ k : Nat, (xss[k]?.getD []).length ≤ 1048576) := by
    show ∀ k, _
    intro k
    have := tot_mem xss k
    omega
  have HN : Hid (xss.length = n) := hnl
  rw [hnl]
  have HC := Lib.hid hcell
  clear hnl hn hcell hcm hnc hv
  go_enter Try.func34, Try.ntmps34
  go_wp2_with (at_make; refine wpList_make_full _ rfl _ _ 46 rfl w.heap.size 23 i0 (.slice none 0 0) 1 Try.underlying46 hi hz0 hz1 .i64 .i64 _ _ n rfl rfl rfl rfl (by rw [hz2]; omega) (by unfold maxLen; omega) (Nat.le_refl _) ?_; intro w1 hown hgr)
  have hb1 : Below w.heap.size w w1 := (Below.refl _ _).grown hgr (Nat.le_refl _) (by simp)
  rw [Nat.mul_one, show (Value.cells (.slice none 0 0)) = #[.slice none 0 0] from rfl, toList_madeCells_one] at hown
  go_loopw [4] (fun i wr => ∃ k : Nat, ∃ us : List Value, k ≤ n ∧ i = .int .i64 k ∧ us.length = k ∧ wr.ownsRow w.heap.size 23 1 (.slice (some ⟨w.heap.size, 0, none⟩) n n) n (us ++ List.replicate (n - k) (.slice none 0 0)) ∧ Below w.heap.size w wr ∧
    (∀ (j : Nat) (xs : List Nat), j < k → xss[j]? = some xs → ∃ u, us[j]? = some u ∧ wr.ownsRow (w.heap.size + 1) 22 1 u xs.length (xs.map (Value.float .f32))) ∧ (∀ (i j : Nat) (u u' : Value) (g : Nat), i < j → us[i]? = some u → us[j]? = some u' → u.ownBlock = some g → u'.ownBlock ≠ some g)) (fun i _ => n - (intOf i).toNat)
  case atStart => exact ⟨0, [], Nat.zero_le _, rfl, rfl, by simpa using hown, hb1, fun j xs hj => by omega, fun i j u u' g _ h => by simp at h⟩
  case round =>
    clear hown hgr hb1
    obtain ⟨k, us, hk, rfl, hul, hown, hb, hrow, hdis⟩ := hrel
    have HU := Lib.hid hul
    have HR := Lib.hid hrow
    have HD := Lib.hid hdis
    clear hul hrow hdis
    by_cases hlt : k < n
    · obtain ⟨b, off, ea, ec, rfl, hc0, hbl, hs0, hm⟩ := HC.out k hlt
      have hc1 := (hb.cell (p := ⟨b, off + k, none⟩) hbl).trans hc0
      have hs1 := hs0.below hb
      have hm2 := HM.out k
      have HG : Hid (w.heap.size < wr.heap.size) := by
        show _ < _
        exact (hown.lt w.heap.size rfl).2
      clear hc0 hs0 hm
      obtain ⟨xs, hxs⟩ : ∃ xs, xs = xss[k]?.getD [] := ⟨_, rfl⟩
      have HXS := Lib.hid hxs
      rw [← hxs] at hc1 hs1 hm2
      clear hxs
      go_wp2_with (go_at_call 25; refine (toFloat32S_any _ xs _ hs1 hm2).mono ?_; rintro e w2 ⟨na, nc, rfl, hnew, hb2⟩; have hown2 := ownsRow_below hown hb2; have hd := hown2.cellAt k (by omega); have hf := hown2.frozenAt k; have hst := hown2.stored k (.slice na xs.length nc); have HST := Lib.hid hst; clear hst; obtain ⟨uu, huu⟩ : ∃ u, (us ++ List.replicate (n - k) (Value.slice none 0 0))[k]? = some u := ⟨_, List.getElem?_eq_getElem (by simp; have := HU.out; omega)⟩; rw [huu] at hd; clear huu)
      go_roundw
      case rel =>
        have hnew2 := ownsRow_base hnew (show w.heap.size + 1 ≤ _ from HG.out)
        refine ⟨k + 1, us ++ [.slice na xs.length nc], by omega, by go_num, by simp [HU.out], ?_, ?_, ?_, ?_⟩
        · have h2 := HST.out.1
          have e : n - k = (n - (k + 1)) + 1 := by omega
          rw [e, List.replicate_succ, List.set_append_right _ _ (by rw [HU.out]; exact Nat.le_refl _), HU.out, Nat.sub_self, List.set_cons_zero] at h2
          simpa using h2
        · exact (hb.trans (hb2.mono hb.size)).setCell (Nat.le_refl _) _
        · intro j ys hj hys
          by_cases hjk : j < k
          · obtain ⟨u, hu, ho⟩ := HR.out j ys hjk hys
            exact ⟨u, by rw [List.getElem?_append_left (by rw [HU.out]; exact hjk)]; exact hu, own_apart (u := .slice (some ⟨w.heap.size, 0, none⟩) n n) (ownsRow_below ho hb2) HST.out.2 (fun q hq => by simp [Value.ownBlock] at hq; omega)⟩
          · obtain rfl : j = k := by omega
            have e : ys = xs := by rw [HXS.out, hys]; rfl
            subst e
            exact ⟨_, by rw [List.getElem?_append_right (by rw [HU.out]; exact Nat.le_refl _), HU.out]; simp, own_apart (u := .slice (some ⟨w.heap.size, 0, none⟩) n n) hnew2 HST.out.2 (fun q hq => by simp [Value.ownBlock] at hq; omega)⟩
        · intro i j u u' g hij hu hu' hg hg'
          have hj := (List.getElem?_eq_some_iff.1 hu').1
          rw [List.length_append, HU.out, List.length_singleton] at hj
          rw [List.getElem?_append_left (by rw [HU.out]; omega)] at hu
          by_cases hjk : j < k
          · rw [List.getElem?_append_left (by rw [HU.out]; omega)] at hu'
            exact HD.out i j u u' g hij hu hu' hg hg'
          · obtain rfl : j = k := by omega
            rw [List.getElem?_append_right (by rw [HU.out]; exact Nat.le_refl _), HU.out] at hu'
            simp only [Nat.sub_self, List.getElem?_cons_zero, Option.some.injEq] at hu'
            subst hu'
            have h1 := (hnew.lt g hg').1
            obtain ⟨zs, hzs⟩ : ∃ zs, xss[i]? = some zs := ⟨_, List.getElem?_eq_getElem (by rw [HN.out]; omega)⟩
            obtain ⟨u2, hu2, ho2⟩ := HR.out i zs hij hzs
            rw [hu] at hu2
            cases hu2
            have h2 := (ho2.lt g hg).2
            omega
      case measure => simp [intOf]; omega
    · obtain rfl : n = k := by omega
      go_wp2
      go_ret
      rw [Nat.sub_self, List.replicate_zero, List.append_nil] at hown
      refine ⟨_, _, rfl, ⟨us, by rw [HN.out]; exact hown, fun j xs hj => ?_, HD.out, fun i u g hu hg => ?_⟩, hb⟩
      · obtain ⟨u, hu, ho⟩ := HR.out j xs (by rw [← HN.out]; exact (List.getElem?_eq_some_iff.1 hj).1) hj
        exact ⟨u, hu, ownsRow_base ho (Nat.le_succ _)⟩
      · have hi := (List.getElem?_eq_some_iff.1 hu).1
        rw [HU.out] at hi
        obtain ⟨zs, hzs⟩ : ∃ zs, xss[i]? = some zs := ⟨_, List.getElem?_eq_getElem (by rw [HN.out]; exact hi)⟩
        obtain ⟨u2, hu2, ho2⟩ := HR.out i zs hi hzs
        rw [hu] at hu2
        cases hu2
        have h2 := ho2.lt g hg
        exact ⟨by simp [Value.ownBlock]; omega, h2.2⟩

set_option maxHeartbeats 1000000 in
theorem markFloat32SS_any (B B' : Nat) (v : Value) (xss : List (List Nat)) (k : Int) (w : World) (hown : OwnMx w B B' 23 22 (Value.float .f32) v xss) (h0 : 0 ≤ k) (h1 : k + (xss.length : Int) + (tot xss : Int) ≤ 1048577) (hB : B ≤ w.heap.size) :
    Calls Try.prog 37 #[v, .int .i64 k] w fun e w' => e = .returned (.int .i64 (k + (tot xss : Int))) ∧ Below B w w' ∧ Far B' w w' := by
  obtain ⟨vs, ho, hrow, hdis, hfar⟩ := hown
  obtain ⟨a, c, rfl⟩ := ownsRow_shape ho
  have hvl : vs.length = xss.length := by simpa using ho.1
  obtain ⟨n, hn⟩ : ∃ n, xss.length = n := ⟨_, rfl⟩
  have hnb : n ≤ 1048577 := by omega
  have HS : Hid (∀ k, k < n → tot (xss.take (k + 1)) = tot (xss.take k) + (xss[k]?.getD []).length) := fun k hk => tot_take_succ xss k (by omega)
  have HL : Hid (∀ k, tot (xss.take k) ≤ tot xss) := tot_take_le xss
  have HA : Hid (tot (xss.take n) = tot xss) := by show _ = _; rw [List.take_of_length_le (by omega)]
  have HD := Lib.hid hdis
  have HF := Lib.hid hfar
  have HN := Lib.hid hn
  have HR : Hid (∀ (i : Nat) (xs : List Nat), xss[i]? = some xs → ∃ u, vs[i]? = some u ∧ ∃ zs, w.ownsRow B 22 1 u xs.length zs) := by
    show ∀ (i : Nat) (xs : List Nat), _
    intro i xs hi
    obtain ⟨u, hu, h⟩ := hrow i xs hi
    exact ⟨u, hu, _, h⟩
  have HVL := Lib.hid hvl
  rw [hn] at ho
  have h2 : k + (n : Int) + (tot xss : Int) ≤ 1048577 := by omega
  rw [hn]
  clear hrow hdis hfar hvl hn h1
  generalize hT : tot xss = T at *
  clear hT
  go_enter Try.func37, Try.ntmps37
  go_wp2
  go_loopw [1, 5] (fun kk i wr => ∃ j : Nat, ∃ q : Nat, j ≤ n ∧ i = .int .i64 j ∧ kk = .int .i64 (k + (q : Int)) ∧ q = tot (xss.take j) ∧ q ≤ T ∧ Below B w wr ∧ Far B' w wr ∧ wr.ownsRow B 23 1 (.slice a n c) n vs ∧
    (∀ (i : Nat) (xs : List Nat), xss[i]? = some xs → ∃ u, vs[i]? = some u ∧ ∃ zs, wr.ownsRow B 22 1 u xs.length zs)) (fun _ i _ => n - (intOf i).toNat)
  case atStart => exact ⟨0, 0, Nat.zero_le _, rfl, by simp, by simp [tot], Nat.zero_le _, Below.refl _ _, fun _ _ _ => rfl, ho, HR.out⟩
  case round =>
    clear ho
    obtain ⟨j, q, hj, rfl, rfl, hq, hqT, hb, hfr, ho, hrow⟩ := hrel
    have HQ := Lib.hid hq
    have HRW := Lib.hid hrow
    have HFR := Lib.hid hfr
    clear hq hrow hfr
    by_cases hlt : j < n
    · obtain ⟨g, rfl, -, -⟩ := own_some ho (by omega)
      obtain ⟨xs, hxs⟩ : ∃ xs, xss[j]? = some xs := ⟨_, List.getElem?_eq_getElem (by rw [HN.out]; exact hlt)⟩
      obtain ⟨u, hu, zs, hz⟩ := HRW.out j xs hxs
      have hs := HS.out j hlt
      rw [hxs, Option.getD_some] at hs
      have hl := HL.out (j + 1)
      have hd := ho.cellAt j (by omega)
      rw [hu] at hd
      obtain ⟨ea, ec, rfl⟩ := ownsRow_shape hz
      have HSJ := Lib.hid hs
      have HU := Lib.hid hu
      have HX := Lib.hid hxs
      have hq2 := HQ.out
      obtain ⟨m, hm⟩ : ∃ m, xs.length = m := ⟨_, rfl⟩
      have hqm : q + m ≤ T := by omega
      have HM := Lib.hid hm
      rw [hm] at hd hz
      clear hs hl hu hxs hq2 hm
      go_wp2_with (go_at_call 29; refine (markFloat32S_any _ _ _ _ _ _ _ (by omega) (by omega) (by omega) hz).mono ?_; rintro e w2 ⟨rfl, hom, hg⟩)
      go_roundw
      case rel =>
        have hsz := hb.size
        refine ⟨j + 1, q + m, by omega, by go_num, by go_num, by have e1 := HSJ.out; have e2 := HQ.out; have e3 := HM.out; omega, hqm, hb.trans (grown_below hg hz (Nat.le_refl _) (by omega)), ?_, ?_, ?_⟩
        · intro p hp1 hp2
          rw [hg.block p (by omega) (fun e => by have := (HF.out j _ p HU.out (by rw [HM.out]; exact e.symm)).2; omega)]
          exact HFR.out p hp1 hp2
        · exact own_kept_ne ho hg (fun p hp => (HF.out j _ p HU.out (by rw [HM.out]; exact hp)).1)
        · intro i ys hi
          by_cases hij : i = j
          · subst hij
            refine ⟨_, HU.out, ?_⟩
            have e := HX.out
            rw [hi] at e
            cases e
            rw [HM.out]
            exact ⟨_, hom⟩
          · obtain ⟨u', hu', zs', hz'⟩ := HRW.out i ys hi
            refine ⟨u', hu', zs', own_kept_ne hz' hg (fun p hp hp' => ?_)⟩
            rcases Nat.lt_or_gt_of_ne hij with h | h
            · exact HD.out i j _ _ p h hu' HU.out hp' (by rw [HM.out]; exact hp)
            · exact HD.out j i _ _ p h HU.out hu' (by rw [HM.out]; exact hp) hp'
      case measure => simp [intOf]; omega
    · obtain rfl : n = j := by omega
      have hq2 := HQ.out
      rw [HA.out] at hq2
      have HT2 := Lib.hid hq2
      clear hq2
      go_wp2
      go_ret
      exact ⟨by rw [HT2.out]; rfl, hb, HFR.out⟩

end Go.Proofs.Ytlahmdnlamifnaa
