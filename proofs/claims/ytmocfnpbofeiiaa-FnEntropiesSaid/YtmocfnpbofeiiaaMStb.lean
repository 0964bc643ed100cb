/- A struct of two numbers and a slice, in a variable, whose slice is appended to. -/
import Derived.Test.YtmocfnpbofeiiaaMVld
import Derived.Test.YtmocfnpbofeiiaaMHmx
import Derived.Deep.AppendLies
import Derived.Deep.RegionLaw
namespace Go.Proofs.Ytmocfnpbofeiiaa
set_option linter.unusedSimpArgs false
set_option linter.unusedVariables false
open Go.RowKit

/-- The block g holds two numbers and a slice that lies in later blocks and reads ys. -/
def StB (w : World) (g : Nat) (i j : Int) (a : Option Addr) (c : Nat) (ys : List Nat) : Prop :=
  w.cell? ⟨g, 0, none⟩ = some (.int .i64 i) ∧ w.cell? ⟨g, 1, none⟩ = some (.int .i64 j) ∧ w.cell? ⟨g, 2, none⟩ = some (.slice a ys.length c) ∧ w.frozen? ⟨g, 2, none⟩ = false ∧ w.ownsRow (g + 1) 32 1 (.slice a ys.length c) ys.length (ys.map (Value.float .f32))
theorem StB.lt {w : World} {g : Nat} {i j : Int} {a : Option Addr} {c : Nat} {ys : List Nat} (h : StB w g i j a c ys) : g < w.heap.size := World.block_lt_of_cell? w _ h.1
theorem StB.below {w w' : World} {g : Nat} {i j : Int} {a : Option Addr} {c : Nat} {ys : List Nat} (h : StB w g i j a c ys) (hb : Below w.heap.size w w') : StB w' g i j a c ys := by
  have hl := h.lt
  obtain ⟨h1, h2, h3, h4, h5⟩ := h
  exact ⟨cell_step h1 hb, cell_step h2 hb, cell_step h3 hb, (hb.frozen (p := ⟨g, 2, none⟩) hl).trans h4, ownsRow_below h5 hb⟩
/-- Behind an append, and a store of what it gave. -/
theorem StB.push {W w2 : World} {g : Nat} {i j : Int} {a : Option Addr} {c : Nat} {ys : List Nat} {y g2 c2 : Nat} (h : StB W g i j a c ys) (hg : W.grownBy w2 (Value.slice a ys.length c).ownBlock)
    (ho : w2.ownsRow (g + 1) 32 1 (.slice (some ⟨g2, 0, none⟩) (ys.length + 1) c2) (ys.length + 1) (ys.map (Value.float .f32) ++ [.float .f32 y])) :
    StB (w2.setCell ⟨g, 2, none⟩ (.slice (some ⟨g2, 0, none⟩) (ys.length + 1) c2)) g i j (some ⟨g2, 0, none⟩) c2 (ys ++ [y]) := by
  have hl := h.lt
  obtain ⟨h1, h2, h3, h4, h5⟩ := h
  have hu : ∀ k, (Value.slice a ys.length c).ownBlock = some k → k ≠ g := fun k hk => by have := own_grown_lt h5 k hk; omega
  have k1 := cell_grown h1 hg hu
  have k2 := cell_grown h2 hg hu
  have k3 := cell_grown h3 hg hu
  have hz : (ys ++ [y]).length = ys.length + 1 := by simp
  refine ⟨?_, ?_, ?_, ?_, ?_⟩
  · rw [World.cell?_setCell_other (h := show (⟨g, 2, none⟩ : Addr) ≠ ⟨g, 0, none⟩ by simp)]; exact k1
  · rw [World.cell?_setCell_other (h := show (⟨g, 2, none⟩ : Addr) ≠ ⟨g, 1, none⟩ by simp)]; exact k2
  · rw [hz]; exact World.cell?_setCell_same w2 _ _ k3
  · rw [World.frozen?_setCell]
    rw [World.frozen?_of_block (a := ⟨g, 2, none⟩) (hg.block g hl (fun e => hu g e.symm rfl))]; exact h4
  · rw [hz, List.map_append]
    exact ownsRow_setCell_below ho (show g < g + 1 by omega) _
theorem push_below {W0 W w2 : World} {B g : Nat} {i j : Int} {a : Option Addr} {c : Nat} {ys : List Nat} {u : Value} (hb : Below B W0 W) (h : StB W g i j a c ys) (hB : B ≤ g) (hg : W.grownBy w2 (Value.slice a ys.length c).ownBlock) :
    Below B W0 (w2.setCell ⟨g, 2, none⟩ u) :=
  (hb.trans (grown_below hg h.2.2.2.2 (by omega) (Nat.le_trans hB (Nat.le_of_lt h.lt)))).setCell (p := ⟨g, 2, none⟩) hB u
/-- The law for an append, in a region that draws, to the struct's slice. -/
theorem StB.law {W : World} {g : Nat} {i j : Int} {a : Option Addr} {c : Nat} {ys : List Nat} (h : StB W g i j a c ys) (hl : ys.length ≤ 4096) (y : Nat) (r : Nat) (hr : W.cell? ⟨r, 0, none⟩ = some (.float .f32 y)) (H : Nat) (hH : W.heap.size = H)
    {ops : Array Oper} {o : Oper} {A : Act} {K : Act → World → Prop} {Q : Exit → Act → World → Prop} {E : Prop} (hgd : o.guard = none) (s x : Operand)
    (hop : o.op = .call { callee := .builtin .append, args := #[s, x], argTypes := #[25, 25] }) (hs : A.eval s = .slice a ys.length c) (hx : A.eval x = .slice (some ⟨r, 0, none⟩) 1 1)
    (hK : ∀ g2 c2 w2, w2.ownsRow (g + 1) 32 1 (.slice (some ⟨g2, 0, none⟩) (ys.length + 1) c2) (ys.length + 1) (ys.map (Value.float .f32) ++ [.float .f32 y]) → W.grownBy w2 (Value.slice a ys.length c).ownBlock → w2.cell? ⟨g, 2, none⟩ = some (.slice a ys.length c) → w2.frozen? ⟨g, 2, none⟩ = false → K (A.put o.dst (.slice (some ⟨g2, 0, none⟩) (ys.length + 1) c2)) w2) :
    if Region.wanted o (yielded ops A.tmps) = true then Oper.wp Try.prog o A W K Q else E := by
  obtain ⟨i0, hi0, hz0, hz1, hz2⟩ := info_parts info_Float32S
  have hlt := h.lt
  exact step_append_lies W hgd s x 25 hop (g + 1) 32 i0 (.float .f32 0) 1 4 Try.underlying25 hi0 hz0 hz1 hz2 rfl (by omega) (.slice a ys.length c) ys.length _ hs h.2.2.2.2 ⟨r, 0, none⟩ 1 1 [.float .f32 y] hx rfl
    (fun j u hu => by
      cases j with
      | zero => simp only [List.getElem?_cons_zero, Option.some.injEq] at hu; rw [← hu]; exact hr
      | succ j => simp at hu)
    (one_oneCell rfl) (by omega) (by unfold maxLen; omega) (by omega) (by omega) H hH (fun g2 c2 w2 q1 q2 _ _ => by
      have hu : ∀ k, (Value.slice a ys.length c).ownBlock = some k → k ≠ g := fun k hk => by have := own_grown_lt h.2.2.2.2 k hk; omega
      exact hK g2 c2 w2 q1 q2 (cell_grown h.2.2.1 q2 hu) ((World.frozen?_of_block (a := ⟨g, 2, none⟩) (q2.block g hlt (fun e => hu g e.symm rfl))).trans h.2.2.2.1))

theorem run_enter {P : Program} {f : FuncId} {fn : Func} (hf : P.funcs[f]? = some fn) (hname : (fn.name == "runtime.NumGoroutine") = false) (hb : fn.body.isSome = true) (args : Array Value) (w : World) : (callFunc f args).run P w = .ok (.enter f args) w := by
  obtain ⟨c, hc⟩ := Option.isSome_iff_exists.1 hb
  have h1 : fn.name ≠ "runtime.NumGoroutine" := by simpa using hname
  simp [callFunc, hf, h1, hc, mark, Sem.run]
/-- A call of a Go function (or of a function value), as one step of a region that draws. -/
theorem step_call {P : Program} {ops : Array Oper} {o : Oper} {A : Act} {w : World} {K : Act → World → Prop} {Q : Exit → Act → World → Prop} {E : Prop} {f : FuncId} (hen : ∀ args w, (callFunc f args).run P w = .ok (.enter f args) w) (vals cap : List Value) (v : Value) (W' : World) (hc : Calls P f (vals ++ cap).toArray w fun e w' => e = .returned v ∧ w' = W')
    (hgd : o.guard = none) (callee : Operand) (argOps : List Operand) (tys : Array TypeId)
    (hop : o.op = .call { callee := .value callee, args := argOps.toArray, argTypes := tys }) (hcal : A.eval callee = .func (.func f) #[] cap.toArray) (hargs : argOps.map A.eval = vals) (hK : K (A.put o.dst v) W') :
    if Region.wanted o (yielded ops A.tmps) = true then Oper.wp P o A w K Q else E := by
  have hw : Region.wanted o (yielded ops A.tmps) = true := by simp [Region.wanted, hgd]
  rw [if_pos hw]
  have hrun : (execOp A.eval o).run P w = .ok (.enter f (vals ++ cap).toArray) w := by
    simp [execOp, hop, resolve, Deferred.ofValue, hcal, invoke, hargs, hen, Result.andThen]
  unfold Oper.wp
  rw [hrun, Oper.upon_enter]
  exact hc.mono (by rintro e w' ⟨rfl, rfl⟩; exact hK)

end Go.Proofs.Ytmocfnpbofeiiaa
