/- Runs of texts of bits. (BEGUN: the plain part.) -/
import Derived.Test.YtjobgobeiiakgaaDoorMRun
import Derived.Test.YtjobgobeiiakgaaDoorMHar
import Derived.IntWalk
namespace Go.Proofs.YtjobgobeiiakgaaDoor
set_option linter.unusedSimpArgs false
set_option linter.unusedVariables false
open Go.RowKit

/-- The last number of a list, one more. -/
def incLast (xs : List Int) : List Int := xs.set (xs.length - 1) (xs[xs.length - 1]?.getD 0 + 1)
/-- The runs of the first k letters. -/
def rsP (l : List UInt8) : Nat → List Int
  | 0 => []
  | k + 1 => if 0 < k ∧ l[k]? = l[k - 1]? then incLast (rsP l k) else rsP l k ++ [1]
theorem incLast_length (xs : List Int) : (incLast xs).length = xs.length := by simp [incLast]
theorem rsP_length (l : List UInt8) : ∀ k, (rsP l k).length ≤ k
  | 0 => Nat.le_refl _
  | k + 1 => by
    have := rsP_length l k
    unfold rsP
    split
    · rw [incLast_length]; omega
    · simp; omega
theorem incLast_app (xs : List Int) : incLast (xs ++ [0]) = xs ++ [1] := by
  simp [incLast]
theorem rsP_pos (l : List UInt8) : ∀ k, 0 < k → 0 < (rsP l k).length
  | 0, h => by omega
  | k + 1, _ => by
    unfold rsP
    split
    · rename_i h
      rw [incLast_length]
      exact rsP_pos l k h.1
    · simp
theorem rsP_bd (l : List UInt8) : ∀ k, ∀ x ∈ rsP l k, 0 ≤ x ∧ x ≤ (k : Int)
  | 0, x, h => by simp [rsP] at h
  | k + 1, x, h => by
    have ih := rsP_bd l k
    unfold rsP at h
    split at h
    · unfold incLast at h
      rcases List.mem_or_eq_of_mem_set h with h2 | h2
      · have := ih x h2; omega
      · subst h2
        cases hg : (rsP l k)[(rsP l k).length - 1]? with
        | none => simp; omega
        | some y =>
          have := ih y (List.mem_of_getElem? hg)
          simp; omega
    · rw [List.mem_append] at h
      rcases h with h2 | h2
      · have := ih x h2; omega
      · simp at h2; omega
def out_RunsOf (s : ByteArray) : List Int × Bool := if bitsOk s.data.toList then (rsP s.data.toList s.data.toList.length, true) else ([], false)

end Go.Proofs.YtjobgobeiiakgaaDoor

/- Runs of texts of bits: the contracts of both functions. -/
namespace Go.Proofs.YtjobgobeiiakgaaDoor
set_option linter.unusedSimpArgs false
set_option linter.unusedVariables false
open Go.RowKit

theorem rsP_app {l : List UInt8} {k : Nat} (h : ¬ (0 < k ∧ l[k]? = l[k - 1]?)) : rsP l (k + 1) = rsP l k ++ [1] := by
  show (if _ then _ else _) = _
  rw [if_neg h]
theorem rsP_inc {l : List UInt8} {k : Nat} (h : 0 < k ∧ l[k]? = l[k - 1]?) : rsP l (k + 1) = incLast (rsP l k) := by
  show (if _ then _ else _) = _
  rw [if_pos h]
theorem bitsOk_len {l : List UInt8} (h : bitsOk l = true) : l.length ≤ 512 := by
  unfold bitsOk at h; simp only [Bool.and_eq_true, decide_eq_true_eq] at h; exact h.1
theorem incLast_map (xs : List Int) : (incLast xs).map (Value.int .i64) = (xs.map (Value.int .i64)).set (xs.length - 1) (.int .i64 (xs[xs.length - 1]?.getD 0 + 1)) := by
  unfold incLast; rw [List.map_set]
theorem set_last0 {zs : List Value} {r : Nat} (h : zs.length = r) : (zs ++ [Value.int .i64 0]).set r (.int .i64 1) = zs ++ [Value.int .i64 1] := by
  subst h; simp

set_option maxRecDepth 100000 in
set_option maxHeartbeats 2000000 in
theorem implRuns_any (l : List UInt8) (w : World) (hl : l.length ≤ 1048576) :
    Calls Tryd.prog 18 #[.string ⟨l.toArray⟩] w (RetSl w 2 (if bitsOk l then rsP l l.length else []).length ((if bitsOk l then rsP l l.length else []).map (Value.int .i64)) (fun v => .tuple #[v, .bool (bitsOk l)])) := by
  obtain ⟨i0, hi0, hz00, hz01, hz02⟩ := info_parts info_Int64S
  cases hb0 : bitsOk l
  · have HT := Lib.hid hb0
    clear hb0
    simp only [Bool.false_eq_true, if_false, List.length_nil, List.map_nil]
    go_enter Tryd.func18, Tryd.ntmps18
    go_wp2_with (go_at_call 38; refine (isBits_any l _ hl).mono ?_; rw [HT.out]; rintro e w1 ⟨rfl, hb1⟩)
    go_ret2
    exact ⟨none, 0, rfl, World.ownsRow_nil _ _ _ _, hb1⟩
  · have HT := Lib.hid hb0
    have hl5 := bitsOk_len hb0
    clear hb0
    simp only [if_true]
    obtain ⟨n, hn⟩ : ∃ n, n = l.length := ⟨_, rfl⟩
    rw [← hn] at hl5 ⊢
    have HN := Lib.hid hn
    clear hn
    go_enter Tryd.func18, Tryd.ntmps18
    go_wp2_with (go_at_call 38; refine (isBits_any l _ hl).mono ?_; rw [HT.out]; rintro e w1 ⟨rfl, hb1⟩)
    have hs1 := hb1.size
    have hown0 : (w1.alloc (.cells #[] 2)).ownsRow w.heap.size 2 1 (.slice (some ⟨w1.heap.size, 0, none⟩) 0 0) 0 [] := ownsRow_base (World.ownsRow_made w1 #[] 0 (Nat.le_refl _) (Nat.zero_le _) rfl) hs1
    have hb0 : Below w.heap.size w (w1.alloc (.cells #[] 2)) := Below.alloc hb1 hs1 _
    clear hb1 hs1
    rw [← HN.out]
    go_loopw [4, 12] (fun v i wr => ∃ k : Nat, k ≤ n ∧ i = .int .i64 k ∧ wr.ownsRow w.heap.size 2 1 v (rsP l k).length ((rsP l k).map (Value.int .i64)) ∧ Below w.heap.size w wr) (fun _ i _ => n - (intOf i).toNat)
    case atStart => exact ⟨0, Nat.zero_le _, rfl, hown0, hb0⟩
    case round =>
      clear hown0 hb0
      obtain ⟨k, hk, rfl, hown, hb⟩ := hrel
      have hbs := hb.size
      by_cases hlt : k < n
      · have hrl := rsP_length l k
        have hkb : k < (ByteArray.mk l.toArray).size := by show k < l.toArray.size; have := HN.out; simp; omega
        have hkl : k < l.length := by have := HN.out; omega
        obtain ⟨c, hc⟩ : ∃ c, (ByteArray.mk l.toArray)[k] = c := ⟨_, rfl⟩
        have hcl : l[k]? = some c := by rw [List.getElem?_eq_getElem hkl, ← hc]; rfl
        by_cases h0 : k = 0
        · subst h0
          have HR := Lib.hid (rsP_app (l := l) (k := 0) (by omega))
          go_wp2_with fail
          go_quiet (fail)
          have hown2 := ownsRow_below hown ((Qu.refl wr).drewN nq).keep
          have hb2 := below_drewN hb nq
          clear hown hb hbs
          generalize wr.drewN nq = wq at *
          have hbs := hb2.size
          go_wp2_with (at_builtin; refine wpList_append_own _ rfl _ _ 32 rfl w.heap.size 2 i0 (.int .i64 0) 1 8 Tryd.underlying32 hi0 hz00 hz01 hz02 rfl (by decide) u4 _ _ rfl (hown2.alloc _) ⟨(World.heap wq).size, 0, none⟩ 1 1 [.int .i64 1] rfl rfl (cell_one_new _ _ _) (one_oneCell rfl) (by unfold maxLen; omega) (by omega) (by simp only [World.size_alloc]; have := hb2.size; omega) ?_; intro v1 w1' hown1 hgx _; have hb1 := app_below hb2 (by have := hb2.size; omega) _ hgx hown2 (by omega))
          go_roundw
          case rel => exact ⟨0 + 1, by omega, by go_num, by rw [HR.out, List.length_append, List.map_append]; exact hown1, hb1⟩
          case measure => simp [intOf]; omega
        · obtain ⟨p, hp⟩ : ∃ p, k = p + 1 := ⟨k - 1, by omega⟩
          have hpb : p < (ByteArray.mk l.toArray).size := by omega
          obtain ⟨d, hd⟩ : ∃ d, (ByteArray.mk l.toArray)[p] = d := ⟨_, rfl⟩
          have hdl : l[k - 1]? = some d := by
            rw [show k - 1 = p by omega, List.getElem?_eq_getElem (by omega), ← hd]; rfl
          have e1 : (k : Int) - 1 = (p : Int) := by omega
          have e2 : IntKind.i64.wrap (p : Int) = (p : Int) := IntWalk.i64_in _ (by omega)
          have e3 : (0 : Int) < (k : Int) := by omega
          have e3n : 0 < k := by omega
          have e3d : decide (0 < k) = true := decide_eq_true e3n
          have hnl : n ≤ l.length := by have := HN.out; omega
          clear hp
          by_cases he : c = d
          · have HR := Lib.hid (rsP_inc (l := l) (k := k) ⟨by omega, by rw [hcl, hdl, he]⟩)
            subst he
            have hpos := rsP_pos l k (by omega)
            obtain ⟨x, hx⟩ : ∃ x, (rsP l k)[(rsP l k).length - 1]? = some x := ⟨_, List.getElem?_eq_getElem (by omega)⟩
            have hxb := rsP_bd l k x (List.mem_of_getElem? hx)
            have HI := Lib.hid (incLast_map (rsP l k))
            rw [hx] at HI
            have HIL := Lib.hid (incLast_length (rsP l k))
            obtain ⟨av, cv, rfl⟩ := ownsRow_shape hown
            obtain ⟨g, rfl, -, -⟩ := own_some hown hpos
            obtain ⟨q, hq⟩ : ∃ q, q = (rsP l k).length - 1 := ⟨_, rfl⟩
            obtain ⟨r, hr⟩ : ∃ r, r = (rsP l k).length := ⟨_, rfl⟩
            rw [← hq] at hx HI
            rw [← hr] at hown hrl hpos hq ⊢
            have HRL := Lib.hid hr
            have HX : Hid ((rsP l k)[q]? = some x) := hx
            clear hr hcl hdl
            have hxq : ((rsP l k).map (Value.int .i64))[q]? = some (.int .i64 x) := by rw [List.getElem?_map, hx]; rfl
            generalize (rsP l k).map (Value.int .i64) = zs at *
            clear hx
            go_wp2_with fail
            go_quiet (fail)
            have hown2 := ownsRow_below hown ((Qu.refl wr).drewN nq).keep
            have hb2 := below_drewN hb nq
            clear hown hb hbs
            generalize wr.drewN nq = wq at *
            have hd0 := hown2.cellAt q (by omega)
            rw [hxq] at hd0
            have hf := hown2.frozenAt q
            have hst := hown2.stored q (.int .i64 (x + 1))
            have HST := Lib.hid hst
            have hfr : Hid (Below w.heap.size w (wq.setCell ⟨g, q, none⟩ (.int .i64 (x + 1)))) := Lib.hid (hb2.trans (grown_below (v := .slice (some ⟨g, 0, none⟩) r cv) hst.2 hown2 (Nat.le_refl _) hb2.size))
            have f1 : (r : Int) - 1 = (q : Int) := by omega
            have f2 : IntKind.i64.wrap (q : Int) = (q : Int) := IntWalk.i64_in _ (by omega)
            have f3 : IntKind.i64.wrap (x + 1) = x + 1 := IntWalk.i64_in _ (by omega)
            have f4 : (q : Int) < (r : Int) := by omega
            have f5 : q < r := by omega
            clear hst hq hxq hown2
            go_wp2
            go_roundw
            case rel => exact ⟨k + 1, by omega, by go_num, by rw [HR.out, HIL.out, HI.out, ← HRL.out]; exact HST.out.1, hfr.out⟩
            case measure => simp [intOf]; omega
          · have HR := Lib.hid (rsP_app (l := l) (k := k) (by rw [hcl, hdl]; intro h; exact he (Option.some.inj h.2)))
            have e4 : ¬ (c.toNat : Int) = (d.toNat : Int) := fun h => he (UInt8.toNat_inj.1 (by omega))
            have e5 : ((c.toNat : Int) == (d.toNat : Int)) = false := by simpa using e4
            have e6 : ¬ c.toNat = d.toNat := by omega
            clear hcl hdl
            go_wp2_with fail
            go_quiet (fail)
            have hown2 := ownsRow_below hown ((Qu.refl wr).drewN nq).keep
            have hb2 := below_drewN hb nq
            clear hown hb hbs
            generalize wr.drewN nq = wq at *
            have hbs := hb2.size
            go_wp2_with (at_builtin; refine wpList_append_own _ rfl _ _ 32 rfl w.heap.size 2 i0 (.int .i64 0) 1 8 Tryd.underlying32 hi0 hz00 hz01 hz02 rfl (by decide) u4 _ _ rfl (hown2.alloc _) ⟨(World.heap wq).size, 0, none⟩ 1 1 [.int .i64 1] rfl rfl (cell_one_new _ _ _) (one_oneCell rfl) (by unfold maxLen; omega) (by omega) (by simp only [World.size_alloc]; have := hb2.size; omega) ?_; intro v1 w1' hown1 hgx _; have hb1 := app_below hb2 (by have := hb2.size; omega) _ hgx hown2 (by omega))
            go_roundw
            case rel => exact ⟨k + 1, by omega, by go_num, by rw [HR.out, List.length_append, List.map_append]; exact hown1, hb1⟩
            case measure => simp [intOf]; omega
      · obtain rfl : n = k := by omega
        go_wp2
        go_ret2
        obtain ⟨a, c, rfl⟩ := ownsRow_shape hown
        exact ⟨a, c, rfl, hown, hb⟩
theorem ba_eta (s : ByteArray) : (⟨s.data.toList.toArray⟩ : ByteArray) = s := by
  cases s; simp
theorem out_RunsOf_eq (s : ByteArray) : (out_RunsOf s).1 = (if bitsOk s.data.toList then rsP s.data.toList s.data.toList.length else []) ∧ (out_RunsOf s).2 = bitsOk s.data.toList := by
  unfold out_RunsOf
  cases h : bitsOk s.data.toList <;> simp
theorem len_RunsOf (s : ByteArray) (_ : s.size ≤ 9223372036854775807) (_ : s.size ≤ 1048576) : (out_RunsOf s).1.length ≤ 1048576 := by
  rw [(out_RunsOf_eq s).1]
  split
  · rename_i h
    have h1 := rsP_length s.data.toList s.data.toList.length
    have h2 := bitsOk_len h
    omega
  · exact Nat.zero_le _
theorem impl_RunsOf (w : World) (s : ByteArray) (_ : s.size ≤ 9223372036854775807) (hl : s.size ≤ 1048576) :
    Calls Tryd.prog 18 #[.string s] w (RetSl w 2 (out_RunsOf s).1.length ((out_RunsOf s).1.map (Value.int .i64)) (fun v => .tuple #[v, .bool (out_RunsOf s).2])) := by
  have h := implRuns_any s.data.toList w (by simpa using hl)
  rw [ba_eta] at h
  rw [(out_RunsOf_eq s).1, (out_RunsOf_eq s).2]
  exact h

end Go.Proofs.YtjobgobeiiakgaaDoor
