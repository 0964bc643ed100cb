/- A channel whose chances a function tells, entry by entry. -/
import Derived.Test.YtmocfnpbofeiiaaMAsx
import Derived.Deep.DrawnRows
namespace Go.Proofs.Ytmocfnpbofeiiaa
set_option linter.unusedSimpArgs false
set_option linter.unusedVariables false
open Go.RowKit

/-- Row i of a channel with chances f: its first k entries. -/
def chR (f : Nat → Nat → Nat) (i k : Nat) : List Nat := (List.range k).map (f i)
/-- The first i rows of m chances. -/
def chA (f : Nat → Nat → Nat) (m i : Nat) : List Nat := (List.range i).flatMap (fun q => chR f q m)
theorem chR_succ (f : Nat → Nat → Nat) (i k : Nat) : chR f i (k + 1) = chR f i k ++ [f i k] := by simp [chR, List.range_succ]
theorem chR_length (f : Nat → Nat → Nat) (i k : Nat) : (chR f i k).length = k := by simp [chR]
theorem chA_succ (f : Nat → Nat → Nat) (m i : Nat) : chA f m (i + 1) = chA f m i ++ chR f i m := by simp [chA, List.range_succ]
theorem chA_length (f : Nat → Nat → Nat) (m i : Nat) : (chA f m i).length = i * m := by
  induction i with
  | zero => simp [chA]
  | succ k ih => rw [chA_succ, List.length_append, ih, chR_length, Nat.add_mul, Nat.one_mul]
theorem chA_mem {f : Nat → Nat → Nat} {m i x : Nat} (h : x ∈ chA f m i) : ∃ q k, q < i ∧ k < m ∧ x = f q k := by
  unfold chA chR at h
  obtain ⟨q, hq, h2⟩ := List.mem_flatMap.1 h
  obtain ⟨k, hk, rfl⟩ := List.mem_map.1 h2
  exact ⟨q, k, List.mem_range.1 hq, List.mem_range.1 hk, rfl⟩
/-- What comes of chances: the channel, or none. -/
def outCh (i j : Int) (xs : List Nat) : Int × Int × List Nat × Bool := if validCh i j xs then (i, j, xs, true) else (0, 0, [], false)
theorem outCh_yes {i j : Int} {xs : List Nat} (h : validCh i j xs = true) : outCh i j xs = (i, j, xs, true) := by unfold outCh; rw [h]; rfl
theorem outCh_no {i j : Int} {xs : List Nat} (h : validCh i j xs = false) : outCh i j xs = (0, 0, [], false) := by unfold outCh; rw [h]; rfl
theorem outCh_len (i j : Int) (xs : List Nat) (h : xs.length ≤ 1048576) : (outCh i j xs).2.2.1.length ≤ 1048576 := by
  unfold outCh
  split
  · exact h
  · exact Nat.zero_le _
theorem RetSl.nul {w w' : World} {T : TypeId} {f : Value → Value} (hb : Below w.heap.size w w') : RetSl w T 0 [] f (.returned (f (.slice none 0 0))) w' := ⟨none, 0, rfl, World.ownsRow_nil _ _ _ _, hb⟩
theorem i64_8 {a : Nat} (h : a ≤ 8) : I64 a := ⟨by omega, by omega⟩
/-- A call of a Go function (or of a function value), as one step of a region that draws; what it leaves is told by R. -/
theorem step_callR {P : Program} {ops : Array Oper} {o : Oper} {A : Act} {w : World} {K : Act → World → Prop} {Q : Exit → Act → World → Prop} {E : Prop} {f : FuncId} (hen : ∀ args w, (callFunc f args).run P w = .ok (.enter f args) w) (vals cap : List Value) (v : Value) (R : World → Prop) (hc : Calls P f (vals ++ cap).toArray w fun e w' => e = .returned v ∧ R w')
    (hgd : o.guard = none) (callee : Operand) (argOps : List Operand) (tys : Array TypeId)
    (hop : o.op = .call { callee := .value callee, args := argOps.toArray, argTypes := tys }) (hcal : A.eval callee = .func (.func f) #[] cap.toArray) (hargs : argOps.map A.eval = vals) (hK : ∀ W', R W' → K (A.put o.dst v) W') :
    if Region.wanted o (yielded ops A.tmps) = true then Oper.wp P o A w K Q else E := by
  have hw : Region.wanted o (yielded ops A.tmps) = true := by simp [Region.wanted, hgd]
  rw [if_pos hw]
  have hrun : (execOp A.eval o).run P w = .ok (.enter f (vals ++ cap).toArray) w := by
    simp [execOp, hop, resolve, Deferred.ofValue, hcal, invoke, hargs, hen, Result.andThen]
  unfold Oper.wp
  rw [hrun, Oper.upon_enter]
  exact hc.mono (by rintro e w' ⟨rfl, h⟩; exact hK _ h)

end Go.Proofs.Ytmocfnpbofeiiaa
