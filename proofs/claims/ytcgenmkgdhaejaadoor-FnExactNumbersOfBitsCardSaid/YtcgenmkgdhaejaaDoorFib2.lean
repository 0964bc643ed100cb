/- Fibonacci numbers as texts: the given side. -/
import Derived.Test.YtcgenmkgdhaejaaDoorFib
import Derived.Deep.AppendLies
import Derived.Deep.RegionLaw
import Derived.BigRegion
namespace Go.Proofs.YtcgenmkgdhaejaaDoor
set_option linter.unusedSimpArgs false
set_option linter.unusedVariables false
open Go.RowKit

def fibN : Nat → Nat
  | 0 => 1
  | 1 => 2
  | n + 2 => fibN (n + 1) + fibN n
def fl (m : Nat) : List Int := (List.range m).map (fun i => (fibN i : Int))
theorem fl_length (m : Nat) : (fl m).length = m := by simp [fl]
theorem fl_succ (m : Nat) : fl (m + 1) = fl m ++ [(fibN m : Int)] := by simp [fl, List.range_succ]
theorem fl_cell (m i : Nat) (h : i < m) : ((fl m).map (Value.int .i64))[i]? = some (.int .i64 (fibN i)) := by simp [fl, h]
/-- The first place from m on whose number is above n. -/
def fm : Nat → Nat → Nat → Nat
  | 0, m, _ => m
  | f + 1, m, n => if fibN m ≤ n then fm f (m + 1) n else m
def slLen : Value → Nat
  | .slice _ n _ => n
  | _ => 0
def fibTop (n : Nat) : Nat := fm 40 1 n
/-- The digits of places 0 .. k-1 for what is left. -/
def gr : Nat → Nat → List UInt8
  | 0, _ => []
  | k + 1, r => if fibN k ≤ r then gr k (r - fibN k) ++ [49] else gr k r ++ [48]
theorem gr_length : ∀ k r, (gr k r).length = k
  | 0, _ => rfl
  | k + 1, r => by
    unfold gr
    split <;> simp [gr_length k]
def fibT (n : Nat) : List UInt8 := gr (fibTop n) n ++ [49]
theorem fib30 : fibN 30 = 2178309 := rfl
theorem fm_step {p n : Nat} (hp : p ≤ 29) (h : fibN (p + 1) ≤ n) : fm (40 - p) (p + 1) n = fm (40 - (p + 1)) (p + 1 + 1) n := by
  rw [show 40 - p = (40 - (p + 1)) + 1 by omega, fm, if_pos h]
theorem fm_stop {p n : Nat} (hp : p ≤ 29) (h : ¬ fibN (p + 1) ≤ n) : fm (40 - p) (p + 1) n = p + 1 := by
  rw [show 40 - p = (39 - p) + 1 by omega, fm, if_neg h]

theorem own_two (w : World) : (w.alloc (.cells #[.int .i64 1, .int .i64 2] 2)).ownsRow w.heap.size 2 1 (.slice (some ⟨w.heap.size, 0, none⟩) 2 2) 2 ((fl 2).map (Value.int .i64)) :=
  ⟨rfl, .inr ⟨w.heap.size, 2, _, rfl, Nat.le_refl _, heap_alloc_new w _, Nat.le_refl _, by unfold maxLen; omega, rfl, rfl⟩⟩

set_option maxRecDepth 100000 in
set_option maxHeartbeats 1000000 in
theorem l04Fibonacci_any (n : Nat) (w : World) (h1 : 1 ≤ n) (hn : n ≤ 1000000) :
    Calls Tryd.prog 64 #[.int .i64 n] w fun e w' => e = .returned (.string ⟨(fibT n).toArray⟩) ∧ Below w.heap.size w w' := by
  obtain ⟨i0, hi0, hz00, hz01, hz02⟩ := info_parts info_Int64S
  go_enter Tryd.func64, Tryd.ntmps64
  go_wp2
  go_loopw [3] (fun v wr => ∃ p : Nat, p ≤ 29 ∧ wr.ownsRow w.heap.size 2 1 v (p + 2) ((fl (p + 2)).map (Value.int .i64)) ∧ Below w.heap.size w wr ∧ fm (40 - p) (p + 1) n = fibTop n ∧ fibN p ≤ n) (fun v _ => 64 - slLen v)
  case atStart => exact ⟨0, by omega, own_two w, by go_grown, rfl, h1⟩
  case round =>
    obtain ⟨p, hp, hown, hb, hfm, hpn⟩ := hrel
    have hbs := hb.size
    obtain ⟨a, c, rfl⟩ := ownsRow_shape hown
    obtain ⟨g, rfl, hgB, hgl⟩ := own_some hown (by omega)
    have hc1 := hown.cellAt (p + 1) (by omega)
    have hc0 := hown.cellAt p (by omega)
    rw [fl_cell _ (p + 1) (by omega)] at hc1
    rw [fl_cell _ p (by omega)] at hc0
    by_cases hle : fibN (p + 1) ≤ n
    · have hp29 : p < 29 := by
        by_cases h : p = 29
        · subst h; rw [fib30] at hle; omega
        · omega
      rw [fm_step hp hle] at hfm
      have HF := Lib.hid hfm
      have HN2 : Hid (fibN (p + 2) = fibN (p + 1) + fibN p) := rfl
      have HFL := Lib.hid (fl_succ (p + 2))
      clear hfm
      generalize hx : fibN (p + 1) = x at *
      generalize fibN p = y at *
      have e1 : IntKind.i64.wrap ((x : Int) + (y : Int)) = (x : Int) + (y : Int) := IntWalk.i64_in _ (by omega)
      have howna : (wr.alloc (.cells #[.int .i64 ((x : Int) + (y : Int))] 2)).drew.ownsRow w.heap.size 2 1 (.slice (some ⟨g, 0, none⟩) (p + 2) c) (p + 2) ((fl (p + 2)).map (Value.int .i64)) := hown.alloc (.cells #[.int .i64 ((x : Int) + (y : Int))] 2)
      have hnews : ∀ j u, [Value.int .i64 ((x : Int) + (y : Int))][j]? = some u → (wr.alloc (.cells #[.int .i64 ((x : Int) + (y : Int))] 2)).drew.cell? ((⟨wr.heap.size, 0, none⟩ : Addr).add j) = some u := cell_one_new _ _ _
      have hbase : w.heap.size ≤ (wr.alloc (.cells #[.int .i64 ((x : Int) + (y : Int))] 2)).drew.heap.size := by
        show _ ≤ (wr.alloc _).heap.size
        rw [World.size_alloc]; omega
      go_wp2
      have e2 : IntKind.i64.wrap ((p : Int) + 2 - 1) = (p : Int) + 1 := (IntWalk.i64_in _ (by omega)).trans (by omega)
      have e3 : IntKind.i64.wrap (p : Int) = (p : Int) := IntWalk.i64_in _ (by omega)
      have e6 : (0 : Int) ≤ (p : Int) + 1 := by omega
      have e7 : (p : Int) + 1 < (p : Int) + 2 := by omega
      have e8 : (0 : Int) ≤ (p : Int) := by omega
      have e9 : (p : Int) < (p : Int) + 2 := by omega
      have e10 : ((p : Int) + 1).toNat = p + 1 := by omega
      have X := fun (ops : Array Oper) (o : Oper) (a : Act) (K : Act → World → Prop) (Q : Exit → Act → World → Prop) (E : Prop) h1 h2 h3 h4 h6 => step_append_lies (P := Tryd.prog) (ops := ops) (o := o) (a := a) (K := K) (Q := Q) (E := E) (wr.alloc (.cells #[.int .i64 ((x : Int) + (y : Int))] 2)).drew h1 (.tmp 15) (.tmp 29) 22 h2 w.heap.size 2 i0 (.int .i64 0) 1 8 Tryd.underlying22 hi0 hz00 hz01 hz02 rfl (by omega) (.slice (some ⟨g, 0, none⟩) (p + 2) c) (p + 2) _ h3 howna ⟨wr.heap.size, 0, none⟩ 1 1 [.int .i64 ((x : Int) + (y : Int))] h4 rfl hnews (one_oneCell rfl) (by omega) (by unfold maxLen; omega) (by omega) hbase (wr.heap.size + 1) (by show (wr.alloc _).heap.size = _; rw [World.size_alloc]) h6
      go_region_law ((refine X _ _ _ _ _ _ rfl rfl rfl rfl ?_; intro g2 c2 w2 hown2 hgrow2 hat2 hlt2))
      all_goals
        rw [show (fl (p + 2)).map (Value.int .i64) ++ [.int .i64 ((x : Int) + (y : Int))] = (fl (p + 3)).map (Value.int .i64) by
          rw [HFL.out, List.map_append, HN2.out]; simp] at hown2
        have hb2 : Below w.heap.size w w2 := app_below hb hbs (.cells #[.int .i64 ((x : Int) + (y : Int))] 2) (⟨hgrow2.1, hgrow2.2, hgrow2.3, hgrow2.4, hgrow2.5⟩ : (wr.alloc (.cells #[.int .i64 ((x : Int) + (y : Int))] 2)).grownBy w2 (Value.slice (some ⟨g, 0, none⟩) (p + 2) c).ownBlock) hown (by omega)
        clear X howna hnews hbase hgrow2
        go_roundw
        case rel =>
          exact ⟨_, _, _, _, _, _, _, _, _, _, _, _, _, _, _, _, _, _, _, _, _, _, _, _, _, ⟨p + 1, by omega, hown2, hb2, HF.out, by rw [hx]; exact hle⟩, rfl⟩
        case measure =>
          show 64 - (p + 2 + 1) < 64 - (p + 2)
          omega
    · rw [fm_stop hp hle] at hfm
      have HF := Lib.hid hfm
      have HPN := Lib.hid hpn
      have HLE := Lib.hid hle
      have HC : Hid (∀ i, i < p + 2 → wr.cell? ⟨g, i, none⟩ = some (.int .i64 (fibN i : Int))) := by
        intro i hi
        have h := hown.cellAt i (by omega)
        rw [fl_cell _ i hi] at h
        exact h
      have HB := Lib.hid hb
      generalize hx : fibN (p + 1) = x at hc1 hle
      have hle' : ¬ (x : Int) ≤ (n : Int) := by omega
      clear hfm hpn hown hc0 hb hbs hx
      go_wp2
      go_loop [0, 4, 5] (fun r s k => ∃ (j q : Nat) (l : List UInt8), j ≤ p + 2 ∧ q ≤ n ∧ r = .int .i64 q ∧ s = .string ⟨l.toArray⟩ ∧ k = .int .i64 ((j : Int) - 1) ∧ l.length ≤ 64 - j ∧ ((j = p + 2 ∧ l = [] ∧ q = n) ∨ (j ≤ p + 1 ∧ gr (p + 1) n = gr j q ++ l ∧ (l = [] → j = p + 1 ∧ q = n)))) (fun _ _ k => (intOf k + 1).toNat)
      case atStart => exact ⟨p + 2, n, [], Nat.le_refl _, Nat.le_refl _, rfl, rfl, by congr 1 <;> omega, by simp, .inl ⟨rfl, rfl, rfl⟩⟩
      case round =>
        obtain ⟨j, q, l, hj, hq, rfl, rfl, rfl, hl, hor⟩ := hrel
        by_cases h0 : 1 ≤ j
        · obtain ⟨i, rfl⟩ : ∃ i, j = i + 1 := ⟨j - 1, by omega⟩
          have hci := HC.out i (by omega)
          rw [show ((i + 1 : Nat) : Int) - 1 = (i : Int) by omega]
          have HO := Lib.hid hor
          clear hor
          generalize hy : fibN i = y at hci
          have HY := Lib.hid hy
          clear hy
          by_cases hyq : y ≤ q
          · have hyq' : (y : Int) ≤ (q : Int) := by omega
            have HR : Hid (gr (p + 1) n = gr i (q - y) ++ (49 :: l)) ∧ i ≤ p := by
              rcases HO.out with ⟨e1, e2, e3⟩ | ⟨e1, e2, e3⟩
              · exfalso
                have hip : i = p + 1 := by omega
                subst hip
                have := HLE.out
                have := HY.out
                omega
              · refine ⟨?_, by omega⟩
                show _ = _
                rw [e2, gr, if_pos (by rw [HY.out]; exact hyq), HY.out]; simp
            obtain ⟨HR, hip⟩ := HR
            go_wp2
            go_round
            case rel => exact ⟨i, q - y, 49 :: l, by omega, by omega, by congr 1; omega, congrArg Value.string (ByteArray.mk_append_mk [49] l), rfl, by simp; omega, .inr ⟨by omega, HR.out, by simp⟩⟩
            case measure => simp [intOf]
          · have hyq' : ¬ (y : Int) ≤ (q : Int) := by omega
            by_cases hl0 : l = []
            · subst hl0
              have HR : Hid (i = p + 1 ∧ q = n) := by
                rcases HO.out with ⟨e1, e2, e3⟩ | ⟨e1, e2, e3⟩
                · exact ⟨by omega, e3⟩
                · exfalso
                  obtain ⟨e4, e5⟩ := e3 rfl
                  have hip : i = p := by omega
                  subst hip
                  have := HPN.out
                  have := HY.out
                  omega
              go_wp2
              go_round
              case rel => exact ⟨i, q, [], by have := HR.out; omega, hq, rfl, rfl, rfl, by simp, .inr ⟨by have := HR.out; omega, by rw [HR.out.1, HR.out.2]; simp, fun _ => HR.out⟩⟩
              case measure => simp [intOf]
            · have HR : Hid (gr (p + 1) n = gr i q ++ (48 :: l)) ∧ i ≤ p := by
                rcases HO.out with ⟨e1, e2, e3⟩ | ⟨e1, e2, e3⟩
                · exact absurd e2 hl0
                · refine ⟨?_, by omega⟩
                  show _ = _
                  rw [e2, gr, if_neg (by rw [HY.out]; exact hyq)]; simp
              obtain ⟨HR, hip⟩ := HR
              have hem : l.isEmpty = false := by simpa using hl0
              go_wp2
              go_round
              case rel => exact ⟨i, q, 48 :: l, by omega, hq, rfl, congrArg Value.string (ByteArray.mk_append_mk [48] l), rfl, by simp; omega, .inr ⟨by omega, HR.out, by simp⟩⟩
              case measure => simp [intOf]
        · obtain rfl : j = 0 := by omega
          have HR : Hid (fibT n = l ++ [49]) := by
            show _ = _
            rcases hor with ⟨e1, e2, e3⟩ | ⟨e1, e2, e3⟩
            · omega
            · rw [fibT, ← HF.out, e2]; simp [gr]
          clear hor
          go_wp2
          go_ret
          exact ⟨ret_str1 HR.out.symm, HB.out⟩
def out_FibonacciOf (n : Int) : ByteArray × Bool := outNum n fibT
theorem fm_le : ∀ f m n, fm f m n ≤ m + f
  | 0, m, n => Nat.le_refl _
  | f + 1, m, n => by
    unfold fm
    split
    · have := fm_le f (m + 1) n; omega
    · omega
theorem fibT_length (n : Nat) : (fibT n).length ≤ 64 := by
  have : fibTop n ≤ 1 + 40 := fm_le 40 1 n
  simp [fibT, gr_length]; omega

end Go.Proofs.YtcgenmkgdhaejaaDoor
