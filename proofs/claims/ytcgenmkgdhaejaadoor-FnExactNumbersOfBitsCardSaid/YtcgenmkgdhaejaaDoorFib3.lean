/- Fibonacci numbers as texts: the side of the program. -/
import Derived.Test.YtcgenmkgdhaejaaDoorFib2
namespace Go.Proofs.YtcgenmkgdhaejaaDoor
set_option linter.unusedSimpArgs false
set_option linter.unusedVariables false
open Go.RowKit

theorem own_48 (w : World) : (w.alloc (.cells #[.int .u8 48] 5)).ownsRow w.heap.size 5 1 (.slice (some ⟨w.heap.size, 0, none⟩) 1 1) 1 [.int .u8 48] :=
  ⟨rfl, .inr ⟨w.heap.size, 1, _, rfl, Nat.le_refl _, heap_alloc_new w _, Nat.le_refl _, by unfold maxLen; omega, rfl, rfl⟩⟩
def bm (l : List UInt8) : List Value := l.map (fun c : UInt8 => Value.int .u8 (c.toNat : Int))
theorem bm_length (l : List UInt8) : (bm l).length = l.length := by simp [bm]
theorem bm_start (k : Nat) : List.replicate k (Value.int .u8 48) = bm (List.replicate k 48 ++ []) := by simp [bm]
theorem bm_set (i : Nat) (l : List UInt8) : (bm (List.replicate (i + 1) 48 ++ l)).set i (.int .u8 49) = bm (List.replicate i 48 ++ (49 :: l)) := by
  unfold bm
  rw [List.replicate_succ', List.append_assoc, List.map_append, List.map_append, List.set_append_right _ _ (by simp)]
  simp
theorem rep_shift (i : Nat) (l : List UInt8) : List.replicate (i + 1) 48 ++ l = List.replicate i 48 ++ (48 :: l) := by
  rw [List.replicate_succ', List.append_assoc]; rfl
theorem own_cap {w : World} {b : Nat} {e : TypeId} {g n c m : Nat} {xs : List Value} (h : w.ownsRow b e 1 (.slice (some ⟨g, 0, none⟩) n c) m xs) : m ≤ c ∧ c ≤ maxLen := by
  rcases h.2 with ⟨h1, _⟩ | ⟨g', cap, cur, hv, hg, hh, hnc, hcm, r⟩
  · simp at h1
  · simp only [Value.slice.injEq] at hv
    obtain ⟨_, _, rfl⟩ := hv
    exact ⟨hnc, hcm⟩

set_option maxRecDepth 100000 in
set_option maxHeartbeats 2000000 in
theorem impl_FibonacciOf (w : World) (n0 : Int) (_ : I64 n0) :
    Calls Tryd.prog 51 #[.int .i64 n0] w fun e w' => e = .returned (.tuple #[.string (out_FibonacciOf n0).1, .bool (out_FibonacciOf n0).2]) ∧ Below w.heap.size w w' := by
  obtain ⟨i0, hi0, hz00, hz01, hz02⟩ := info_parts info_Int64S
  generalize ht : inB n0 1 1000000 = t
  have HT := Lib.hid ht
  cases t
  · rw [out_FibonacciOf, outNum_no _ ht]
    clear ht
    go_enter Tryd.func51, Tryd.ntmps51
    go_wp2_with (go_at_call 73; refine (isCounted_any _ _).mono ?_; rw [HT.out]; rintro e w' ⟨rfl, rfl⟩)
    go_ret2
    exact ⟨rfl, Below.refl _ _⟩
  obtain ⟨h1, hn⟩ := inB_true ht
  obtain ⟨n, rfl⟩ : ∃ m : Nat, n0 = (m : Int) := ⟨n0.toNat, by omega⟩
  rw [out_FibonacciOf, outNum_yes _ ht]
  clear ht
  replace h1 : 1 ≤ n := by omega
  replace hn : n ≤ 1000000 := by omega
  go_enter Tryd.func51, Tryd.ntmps51
  go_wp2_with (go_at_call 73; refine (isCounted_any _ _).mono ?_; rw [HT.out]; rintro e w' ⟨rfl, rfl⟩)
  go_loopw [4] (fun v wr => ∃ p : Nat, p ≤ 29 ∧ wr.ownsRow w.heap.size 2 1 v (p + 2) ((fl (p + 2)).map (Value.int .i64)) ∧ Below w.heap.size w wr ∧ fm (40 - p) (p + 1) n = fibTop n ∧ fibN p ≤ n) (fun v _ => 64 - slLen v)
  case atStart => exact ⟨0, by omega, own_two w, by go_grown, rfl, h1⟩
  case round =>
    obtain ⟨p, hp, hown, hb, hfm, hpn⟩ := hrel
    have hbs := hb.size
    obtain ⟨a, c, rfl⟩ := ownsRow_shape hown
    obtain ⟨g, rfl, hgB, hgl⟩ := own_some hown (by omega)
    have hc1 := hown.cellAt (p + 1) (by omega)
    have hc0 := hown.cellAt p (by omega)
    rw [fl_cell _ (p + 1) (by omega)] at hc1
    rw [fl_cell _ p (by omega)] at hc0
    by_cases hle : fibN (p + 1) ≤ n
    · have hp29 : p < 29 := by
        by_cases h : p = 29
        · subst h; rw [fib30] at hle; omega
        · omega
      rw [fm_step hp hle] at hfm
      have HF := Lib.hid hfm
      have HN2 : Hid (fibN (p + 2) = fibN (p + 1) + fibN p) := rfl
      have HFL := Lib.hid (fl_succ (p + 2))
      clear hfm
      generalize hx : fibN (p + 1) = x at *
      generalize fibN p = y at *
      have e1 : IntKind.i64.wrap ((x : Int) + (y : Int)) = (x : Int) + (y : Int) := IntWalk.i64_in _ (by omega)
      have howna : (wr.alloc (.cells #[.int .i64 ((x : Int) + (y : Int))] 2)).drew.ownsRow w.heap.size 2 1 (.slice (some ⟨g, 0, none⟩) (p + 2) c) (p + 2) ((fl (p + 2)).map (Value.int .i64)) := hown.alloc (.cells #[.int .i64 ((x : Int) + (y : Int))] 2)
      have hnews : ∀ j u, [Value.int .i64 ((x : Int) + (y : Int))][j]? = some u → (wr.alloc (.cells #[.int .i64 ((x : Int) + (y : Int))] 2)).drew.cell? ((⟨wr.heap.size, 0, none⟩ : Addr).add j) = some u := cell_one_new _ _ _
      have hbase : w.heap.size ≤ (wr.alloc (.cells #[.int .i64 ((x : Int) + (y : Int))] 2)).drew.heap.size := by
        show _ ≤ (wr.alloc _).heap.size
        rw [World.size_alloc]; omega
      go_wp2
      have e2 : IntKind.i64.wrap ((p : Int) + 2 - 1) = (p : Int) + 1 := (IntWalk.i64_in _ (by omega)).trans (by omega)
      have e3 : IntKind.i64.wrap (p : Int) = (p : Int) := IntWalk.i64_in _ (by omega)
      have e6 : (0 : Int) ≤ (p : Int) + 1 := by omega
      have e7 : (p : Int) + 1 < (p : Int) + 2 := by omega
      have e8 : (0 : Int) ≤ (p : Int) := by omega
      have e9 : (p : Int) < (p : Int) + 2 := by omega
      have e10 : ((p : Int) + 1).toNat = p + 1 := by omega
      have X := fun (ops : Array Oper) (o : Oper) (a : Act) (K : Act → World → Prop) (Q : Exit → Act → World → Prop) (E : Prop) h1 h2 h3 h4 h6 => step_append_lies (P := Tryd.prog) (ops := ops) (o := o) (a := a) (K := K) (Q := Q) (E := E) (wr.alloc (.cells #[.int .i64 ((x : Int) + (y : Int))] 2)).drew h1 (.tmp 19) (.tmp 33) 22 h2 w.heap.size 2 i0 (.int .i64 0) 1 8 Tryd.underlying22 hi0 hz00 hz01 hz02 rfl (by omega) (.slice (some ⟨g, 0, none⟩) (p + 2) c) (p + 2) _ h3 howna ⟨wr.heap.size, 0, none⟩ 1 1 [.int .i64 ((x : Int) + (y : Int))] h4 rfl hnews (one_oneCell rfl) (by omega) (by unfold maxLen; omega) (by omega) hbase (wr.heap.size + 1) (by show (wr.alloc _).heap.size = _; rw [World.size_alloc]) h6
      go_region_law ((refine X _ _ _ _ _ _ rfl rfl rfl rfl ?_; intro g2 c2 w2 hown2 hgrow2 hat2 hlt2))
      all_goals
        rw [show (fl (p + 2)).map (Value.int .i64) ++ [.int .i64 ((x : Int) + (y : Int))] = (fl (p + 3)).map (Value.int .i64) by
          rw [HFL.out, List.map_append, HN2.out]; simp] at hown2
        have hb2 : Below w.heap.size w w2 := app_below hb hbs (.cells #[.int .i64 ((x : Int) + (y : Int))] 2) (⟨hgrow2.1, hgrow2.2, hgrow2.3, hgrow2.4, hgrow2.5⟩ : (wr.alloc (.cells #[.int .i64 ((x : Int) + (y : Int))] 2)).grownBy w2 (Value.slice (some ⟨g, 0, none⟩) (p + 2) c).ownBlock) hown (by omega)
        clear X howna hnews hbase hgrow2
        go_roundw
        case rel =>
          exact ⟨_, _, _, _, _, _, _, _, _, _, _, _, _, _, _, _, _, _, _, _, _, _, _, _, _, ⟨p + 1, by omega, hown2, hb2, HF.out, by rw [hx]; exact hle⟩, rfl⟩
        case measure =>
          show 64 - (p + 2 + 1) < 64 - (p + 2)
          omega
    · rw [fm_stop hp hle] at hfm
      have HF := Lib.hid hfm
      have HC : Hid (∀ i, i < p + 2 → wr.cell? ⟨g, i, none⟩ = some (.int .i64 (fibN i : Int))) := by
        intro i hi
        have h := hown.cellAt i (by omega)
        rw [fl_cell _ i hi] at h
        exact h
      obtain ⟨hpc, hcm⟩ := own_cap hown
      have hcm9 : c ≤ 9223372036854775807 := by unfold maxLen at hcm; omega
      have HB := Lib.hid hb
      have HBS := Lib.hid hbs
      have HPN := Lib.hid hpn
      have HLE := Lib.hid hle
      have hp1 := hc1
      have hp0 := hc0
      generalize hx : fibN (p + 1) = x at hp1 hle
      generalize hy : fibN p = y at hp0 hpn
      have hle' : ¬ (x : Int) ≤ (n : Int) := by omega
      have hlt' : (n : Int) < (x : Int) := by omega
      have hpn' : ¬ (n : Int) < (y : Int) := by omega
      clear hfm hown hc0 hc1 hb hbs hx hy hcm
      go_wp2
      go_loop [4] (fun v => v = .slice (some ⟨g, 0, none⟩) (p + 2) c ∨ v = .slice (some ⟨g, 0, none⟩) (p + 1) c) (fun v => slLen v)
      case atStart => exact .inl rfl
      case round =>
        rcases hrel with rfl | rfl
        · have q1 : (0 : Int) ≤ (p : Int) + 1 := by omega
          have q2 : (p : Int) + 1 ≤ (c : Int) := by omega
          go_wp2
          go_round
          case rel => exact .inr rfl
          case measure => simp [slLen]
        · clear hp1 hlt' hle'
          go_wp2_with fail
          have HRP := repeatB_any (p + 1) (.slice (some ⟨wr.heap.size, 0, none⟩) 1 1) (wr.alloc (.cells #[.int .u8 48] 5)) (by omega) (by omega) (SlR.own (own_48 wr))
          simp only [Int.natCast_add, Int.natCast_one] at HRP
          refine HRP.mono ?_
          clear HRP
          rintro e w3 ⟨ao, co, rfl, hO, hb3⟩
          obtain ⟨g3, rfl, hg3, hgl3⟩ := own_some hO (by omega)
          have hsz : wr.heap.size ≤ (wr.alloc (.cells #[.int .u8 48] 5)).heap.size := by rw [World.size_alloc]; omega
          have hbx : Below wr.heap.size wr w3 := ((Below.refl wr.heap.size wr).alloc (Nat.le_refl _) _).trans (hb3.mono hsz)
          replace hO := ownsRow_base hO hsz
          replace hg3 : wr.heap.size ≤ g3 := Nat.le_trans hsz hg3
          have hco := own_cap hO
          have hco9 : co ≤ 9223372036854775807 := by have := hco.2; unfold maxLen at this; omega
          rw [bm_start] at hO
          clear hb3 hsz hpn' hp0 hpn hco
          go_wp2
          go_loopw [0, 6] (fun r k wx => ∃ (j q : Nat) (l : List UInt8), j ≤ p + 1 ∧ q ≤ n ∧ r = .int .i64 q ∧ k = .int .i64 ((j : Int) - 1) ∧ wx.ownsRow wr.heap.size 5 1 (.slice (some ⟨g3, 0, none⟩) (p + 1) co) (p + 1) (bm (List.replicate j 48 ++ l)) ∧ Below wr.heap.size wr wx ∧ gr (p + 1) n = gr j q ++ l) (fun _ k _ => (intOf k + 1).toNat)
          case atStart => exact ⟨p + 1, n, [], Nat.le_refl _, Nat.le_refl _, rfl, by congr 1 <;> omega, hO, hbx, by simp⟩
          case round =>
            clear hO hbx
            obtain ⟨j, q, l, hj, hq, rfl, rfl, hO, hbx, hgr⟩ := hrel
            have HG := Lib.hid hgr
            clear hgr
            by_cases h0 : 1 ≤ j
            · obtain ⟨i, rfl⟩ : ∃ i, j = i + 1 := ⟨j - 1, by omega⟩
              have hci := (hbx.cell (p := ⟨g, i, none⟩) hgl).trans (HC.out i (by omega))
              rw [show ((i + 1 : Nat) : Int) - 1 = (i : Int) by omega]
              have hll := hO.1
              have hd1 := hO.cellAt i (by omega)
              obtain ⟨u, hu⟩ : ∃ u, (bm (List.replicate (i + 1) 48 ++ l))[i]? = some u := ⟨_, List.getElem?_eq_getElem (by omega)⟩
              rw [hu] at hd1
              have hf := hO.frozenAt i
              have HST := Lib.hid (hO.stored i (.int .u8 49))
              have HOW := Lib.hid hO
              clear hu hll
              generalize hy : fibN i = y at hci
              have HY := Lib.hid hy
              clear hy hO
              by_cases hyq : y ≤ q
              · have hyq' : (y : Int) ≤ (q : Int) := by omega
                have HR : Hid (gr (p + 1) n = gr i (q - y) ++ (49 :: l)) := by
                  show _ = _
                  rw [HG.out, gr, if_pos (by rw [HY.out]; exact hyq), HY.out]; simp
                go_wp2
                go_roundw
                case rel =>
                  have h2 := HST.out.1
                  rw [bm_set] at h2
                  exact ⟨i, q - y, 49 :: l, by omega, by omega, by congr 1; omega, rfl, h2, hbx.setCell (p := ⟨g3, i, none⟩) hg3 _, HR.out⟩
                case measure => simp [intOf]
              · have hyq' : ¬ (y : Int) ≤ (q : Int) := by omega
                have HR : Hid (gr (p + 1) n = gr i q ++ (48 :: l)) := by
                  show _ = _
                  rw [HG.out, gr, if_neg (by rw [HY.out]; exact hyq)]; simp
                go_wp2
                go_roundw
                case rel =>
                  have h2 := HOW.out
                  rw [rep_shift] at h2
                  exact ⟨i, q, 48 :: l, by omega, hq, rfl, rfl, h2, hbx, HR.out⟩
                case measure => simp [intOf]
            · obtain rfl : j = 0 := by omega
              have hl : l.length = p + 1 := by have := hO.1; simpa [bm] using this
              have HR : Hid (fibT n = l ++ [49]) := by
                show _ = _
                rw [fibT, ← HF.out, HG.out]; simp [gr]
              have hconv : (convert 37 9 (.slice (some ⟨g3, 0, none⟩) (p + 1) co)).run Tryd.prog wr = .ok (.string ⟨l.toArray⟩) wr := by
                have h := run_convert_bytes_back (P := Tryd.prog) wr 37 9 5 ⟨g3, 0, none⟩ co l Tryd.underlying37 Tryd.underlying5 Tryd.underlying9 (fun j hj => by
                  rw [Addr.add_lit, Nat.zero_add, hO.cellAt j (by omega), List.replicate_zero, List.nil_append, bm, List.getElem?_map, List.getElem?_eq_getElem hj]
                  rfl)
                rw [hl] at h
                exact h
              clear hO
              go_wp2
              go_ret2
              exact ⟨ret_str2 HR.out.symm, HB.out.trans (hbx.mono HBS.out)⟩

end Go.Proofs.YtcgenmkgdhaejaaDoor
