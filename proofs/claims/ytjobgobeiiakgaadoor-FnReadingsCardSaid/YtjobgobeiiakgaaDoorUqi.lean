/- Texts that are made of words in two ways: what follows a rest. -/
import Derived.Test.YtjobgobeiiakgaaDoorUnq2
import Derived.Test.YtjobgobeiiakgaaDoorPfx3
import Derived.Deep.AppendLies
import Derived.Deep.RegionLaw
namespace Go.Proofs.YtjobgobeiiakgaaDoor
set_option linter.unusedSimpArgs false
set_option linter.unusedVariables false
open Go.RowKit
open Go.Maps (Keyed Tidy IsMap has size)

/-- The cells of a pair of texts. -/
def p2 (x : List UInt8 × List UInt8) : List Value := [.string ⟨x.1.toArray⟩, .string ⟨x.2.toArray⟩]
theorem p2_len (l : List (List UInt8 × List UInt8)) : (l.flatMap p2).length = l.length * 2 := by
  induction l with
  | nil => rfl
  | cons x r ih => rw [List.flatMap_cons, List.length_append, ih, List.length_cons]; show 2 + _ = _; omega
theorem p2_snoc (l : List (List UInt8 × List UInt8)) (x : List UInt8 × List UInt8) : (l ++ [x]).flatMap p2 = l.flatMap p2 ++ [.string ⟨x.1.toArray⟩, .string ⟨x.2.toArray⟩] := by
  rw [List.flatMap_append]; rfl
theorem p2_at (l : List (List UInt8 × List UInt8)) (k : Nat) (h : k < l.length) : (l.flatMap p2)[k * 2]? = some (.string ⟨(l[k]?.getD ([], [])).1.toArray⟩) ∧ (l.flatMap p2)[k * 2 + 1]? = some (.string ⟨(l[k]?.getD ([], [])).2.toArray⟩) := by
  induction l generalizing k with
  | nil => simp at h
  | cons x r ih =>
    cases k with
    | zero => exact ⟨rfl, rfl⟩
    | succ k =>
      have h2 := ih k (by simpa using h)
      rw [List.flatMap_cons, show (k + 1) * 2 = k * 2 + 2 by omega, show k * 2 + 2 + 1 = (k * 2 + 1) + 2 by omega]
      exact h2
theorem two_oneCell (a b : ByteArray) : ∀ x ∈ [Value.string a, Value.string b], x.oneCell' = true := by
  intro x hx
  simp at hx
  rcases hx with rfl | rfl <;> rfl
theorem fol_a {w r : List UInt8} (h : w.isPrefixOf r = true) : fol w r = some (r.drop w.length, []) := by unfold fol; rw [if_pos h]
theorem fol_b {w r : List UInt8} (h : w.isPrefixOf r = false) (h2 : r.isPrefixOf w = true) : fol w r = some (w.drop r.length, w.drop r.length) := by unfold fol; rw [h, h2]; rfl
theorem fol_c {w r : List UInt8} (h : w.isPrefixOf r = false) (h2 : r.isPrefixOf w = false) : fol w r = none := by unfold fol; rw [h, h2]; rfl
theorem info_P2 : (Tryd.prog.info? 88).map (fun i => (i.zero, i.size, i.bytes)) = some (some (.agg #[.string ⟨#[]⟩, .string ⟨#[]⟩]), 2, 32) := by kernel_rfl

set_option maxRecDepth 100000 in
set_option maxHeartbeats 4000000 in
theorem followers_any (v : Value) (ws : List ByteArray) (w : World) (hv : SlR w v (ws.map Value.string)) (hl : WBits ws) (h16 : ws.length ≤ 16) (r : List UInt8) (hr : r.length ≤ 32) :
    Calls Tryd.prog 58 #[v, .string ⟨r.toArray⟩] w fun e w' => ∃ v', e = .returned v' ∧ w'.ownsRow w.heap.size 88 2 v' (folL ws r ws.length).length ((folL ws r ws.length).flatMap p2) ∧ Below w.heap.size w w' := by
  obtain ⟨i0, hi0, hz00, hz01, hz02⟩ := info_parts info_P2
  obtain ⟨a, n, c, rfl, hnl, hnc, hcm, hcell⟩ := SlR.opened ⟨#[]⟩ hv
  unfold maxLen at hcm
  have hn9 : n ≤ 9223372036854775807 := by omega
  have hn16 : n ≤ 16 := by omega
  have HL := Lib.hid (fun k => (hl k).2)
  have HC := Lib.hid hcell
  rw [hnl]
  have HP : Hid (∀ (r u : List UInt8) (W : World), Calls Tryd.prog 41 #[.string ⟨r.toArray⟩, .string ⟨u.toArray⟩] W fun e w' => e = .returned (.bool (u.isPrefixOf r)) ∧ W = w') := by
    show ∀ (r u : List UInt8) (W : World), _
    exact fun r u W => (Tryd.strings_HasPrefix ⟨r.toArray⟩ ⟨u.toArray⟩ W).mono fun _ _ h => ⟨h.1, h.2.symm⟩
  have HLEN := Lib.hid (fun k => folL_len ws r k)
  have HY : Hid (∀ k x, fol (wbx ws k) r = some x → folL ws r (k + 1) = folL ws r k ++ [x]) := Lib.hid (fun k x h => folL_some h)
  have HN : Hid (∀ k, fol (wbx ws k) r = none → folL ws r (k + 1) = folL ws r k) := Lib.hid (fun k h => folL_none h)
  have H0 := Lib.hid (folL_zero ws r)
  generalize folL ws r = L at *
  clear hnl hcell hcm hnc hv hl h16
  go_enter Tryd.func58, Tryd.ntmps58
  go_wp2
  go_loopw [5, 11] (fun u q wr => ∃ k : Nat, k ≤ n ∧ q = .int .i64 (k : Int) ∧ wr.ownsRow w.heap.size 88 2 u (L k).length ((L k).flatMap p2) ∧ Below w.heap.size w wr) (fun _ q _ => n - (intOf q).toNat)
  case atStart => exact ⟨0, Nat.zero_le _, rfl, by rw [H0.out]; exact World.ownsRow_made w #[] 0 (Nat.le_refl _) (Nat.zero_le _) rfl, (Below.refl _ _).alloc (Nat.le_refl _) _⟩
  case round =>
    obtain ⟨k, hk, rfl, hown, hb⟩ := hrel
    have hbs := hb.size
    have hkl := HLEN.out k
    by_cases hlt : k < n
    · obtain ⟨b0, off, rfl, hc0, hbl⟩ := HC.out k hlt
      rw [List.getD_eq_getElem?_getD, wbx_eq] at hc0
      have hc := cell_step hc0 hb
      have hxk := HL.out k
      obtain ⟨x, hx⟩ : ∃ x, x = wbx ws k := ⟨_, rfl⟩
      rw [← hx] at hc hxk
      have HYk := Lib.hid (HY.out k)
      have HNk := Lib.hid (HN.out k)
      rw [← hx] at HYk HNk
      clear hx hc0
      have hcall := HP.out r x wr
      have hcall2 := HP.out x r wr
      cases hp : x.isPrefixOf r
      · rw [hp] at hcall
        cases hp2 : r.isPrefixOf x
        · have HS := Lib.hid (HNk.out (fol_c hp hp2))
          rw [hp2] at hcall2
          have HCA := Lib.hid hcall
          have HCB := Lib.hid hcall2
          clear hp hp2 hcall hcall2 HYk HNk
          go_wp2_with (first
            | (go_at_call 41; refine HCA.out.mono ?_; rintro e w1 ⟨rfl, rfl⟩)
            | (go_at_call 41; refine HCB.out.mono ?_; rintro e w1 ⟨rfl, rfl⟩))
          go_roundw
          case rel => exact ⟨k + 1, by omega, by go_num, by rw [HS.out]; exact hown, hb⟩
          case measure => simp [intOf]; omega
        · have HS := Lib.hid (HYk.out _ (fol_b hp hp2))
          have hpl := List.IsPrefix.length_le (List.isPrefixOf_iff_prefix.1 hp2)
          have hcut := run_cut_d x r.length hpl
          rw [hp2] at hcall2
          have HCA := Lib.hid hcall
          have HCB := Lib.hid hcall2
          clear hp hp2 hcall hcall2 HYk HNk
          generalize x.drop r.length = z at *
          have howna : (wr.alloc (.cells #[.string ⟨z.toArray⟩, .string ⟨z.toArray⟩] 88)).drew.ownsRow w.heap.size 88 2 u5 (L k).length ((L k).flatMap p2) := hown.alloc (.cells #[.string ⟨z.toArray⟩, .string ⟨z.toArray⟩] 88)
          have hnews : ∀ j u, [Value.string ⟨z.toArray⟩, .string ⟨z.toArray⟩][j]? = some u → (wr.alloc (.cells #[.string ⟨z.toArray⟩, .string ⟨z.toArray⟩] 88)).drew.cell? ((⟨wr.heap.size, 0, none⟩ : Addr).add j) = some u := cell_two_new _ _ _ _
          have hbase : w.heap.size ≤ (wr.alloc (.cells #[.string ⟨z.toArray⟩, .string ⟨z.toArray⟩] 88)).drew.heap.size := by
            show _ ≤ (wr.alloc _).heap.size
            rw [World.size_alloc]; omega
          have X := fun (ops : Array Oper) (o : Oper) (a : Act) (K : Act → World → Prop) (Q : Exit → Act → World → Prop) (E : Prop) h1 h2 h3 h4 h6 => step_append_lies (P := Tryd.prog) (ops := ops) (o := o) (a := a) (K := K) (Q := Q) (E := E) (wr.alloc (.cells #[.string ⟨z.toArray⟩, .string ⟨z.toArray⟩] 88)).drew h1 (.tmp 31) (.tmp 41) 86 h2 w.heap.size 88 i0 _ 2 32 Tryd.underlying86 hi0 hz00 hz01 hz02 rfl (by omega) u5 (L k).length _ h3 howna ⟨wr.heap.size, 0, none⟩ 1 1 [.string ⟨z.toArray⟩, .string ⟨z.toArray⟩] h4 rfl hnews (two_oneCell _ _) (by omega) (by unfold maxLen; omega) (by omega) hbase (wr.heap.size + 1) (by show (wr.alloc _).heap.size = _; rw [World.size_alloc]) h6
          go_wp2_with (first
            | (go_at_call 41; refine HCA.out.mono ?_; rintro e w1 ⟨rfl, rfl⟩)
            | (go_at_call 41; refine HCB.out.mono ?_; rintro e w1 ⟨rfl, rfl⟩))
          go_region_law ((refine X _ _ _ _ _ _ rfl rfl rfl rfl ?_; intro g2 c2 w2 hown2 hgrow2 hat2 hlt2))
          all_goals
            have hown1 := hown2
            have hb1 : Below w.heap.size w w2 := app_below hb hbs (.cells #[.string ⟨z.toArray⟩, .string ⟨z.toArray⟩] 88) (⟨hgrow2.1, hgrow2.2, hgrow2.3, hgrow2.4, hgrow2.5⟩ : (wr.alloc (.cells #[.string ⟨z.toArray⟩, .string ⟨z.toArray⟩] 88)).grownBy w2 (Value.ownBlock u5)) hown (by omega)
            clear X howna hnews hbase hgrow2 hown2
            go_wp2
            go_roundw
            case rel => exact ⟨k + 1, by omega, by go_num, by rw [HS.out, p2_snoc, List.length_append]; exact hown1, hb1⟩
            case measure => simp [intOf]; omega
      · have HS := Lib.hid (HYk.out _ (fol_a hp))
        have hpl := List.IsPrefix.length_le (List.isPrefixOf_iff_prefix.1 hp)
        have hcut := run_cut_d r x.length hpl
        rw [hp] at hcall
        have HCA := Lib.hid hcall
        clear hp hcall hcall2 HYk HNk
        generalize r.drop x.length = z at *
        go_wp2_with (first
          | (go_at_call 41; refine HCA.out.mono ?_; rintro e w1 ⟨rfl, rfl⟩)
          | (at_builtin; refine wpList_append_own _ rfl _ _ 86 rfl w.heap.size 88 i0 _ 2 32 Tryd.underlying86 hi0 hz00 hz01 hz02 rfl (by decide) u5 _ _ rfl (hown.alloc _) ⟨wr.heap.size, 0, none⟩ 1 1 [.string ⟨z.toArray⟩, .string ⟨#[]⟩] rfl rfl (cell_two_new _ _ _ _) (two_oneCell _ _) (by unfold maxLen; omega) (by omega) (by simp only [World.size_alloc]; omega) ?_; intro v1 w2 hown1 hgx _; have hb1 := app_below hb (by omega) _ hgx hown (by omega)))
        go_roundw
        case rel => exact ⟨k + 1, by omega, by go_num, by rw [HS.out, p2_snoc, List.length_append]; exact hown1, hb1⟩
        case measure => simp [intOf]; omega
    · obtain rfl : n = k := by omega
      go_wp2
      go_ret
      exact ⟨_, rfl, hown, hb⟩

end Go.Proofs.YtjobgobeiiakgaaDoor
