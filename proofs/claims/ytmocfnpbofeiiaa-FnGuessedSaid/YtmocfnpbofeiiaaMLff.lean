/- A channel whose chances a function tells, entry by entry. -/
import Derived.Test.YtmocfnpbofeiiaaMAsx
import Derived.Deep.DrawnRows
namespace Go.Proofs.Ytmocfnpbofeiiaa
set_option linter.unusedSimpArgs false
set_option linter.unusedVariables false
open Go.RowKit

/-- Row i of a channel with chances f: its first k entries. -/
def chR (f : Nat → Nat → Nat) (i k : Nat) : List Nat := (List.range k).map (f i)
/-- The first i rows of m chances. -/
def chA (f : Nat → Nat → Nat) (m i : Nat) : List Nat := (List.range i).flatMap (fun q => chR f q m)
theorem chR_succ (f : Nat → Nat → Nat) (i k : Nat) : chR f i (k + 1) = chR f i k ++ [f i k] := by simp [chR, List.range_succ]
theorem chR_length (f : Nat → Nat → Nat) (i k : Nat) : (chR f i k).length = k := by simp [chR]
theorem chA_succ (f : Nat → Nat → Nat) (m i : Nat) : chA f m (i + 1) = chA f m i ++ chR f i m := by simp [chA, List.range_succ]
theorem chA_length (f : Nat → Nat → Nat) (m i : Nat) : (chA f m i).length = i * m := by
  induction i with
  | zero => simp [chA]
  | succ k ih => rw [chA_succ, List.length_append, ih, chR_length, Nat.add_mul, Nat.one_mul]
theorem chA_mem {f : Nat → Nat → Nat} {m i x : Nat} (h : x ∈ chA f m i) : ∃ q k, q < i ∧ k < m ∧ x = f q k := by
  unfold chA chR at h
  obtain ⟨q, hq, h2⟩ := List.mem_flatMap.1 h
  obtain ⟨k, hk, rfl⟩ := List.mem_map.1 h2
  exact ⟨q, k, List.mem_range.1 hq, List.mem_range.1 hk, rfl⟩
/-- What comes of chances: the channel, or none. -/
def outCh (i j : Int) (xs : List Nat) : Int × Int × List Nat × Bool := if validCh i j xs then (i, j, xs, true) else (0, 0, [], false)
theorem outCh_yes {i j : Int} {xs : List Nat} (h : validCh i j xs = true) : outCh i j xs = (i, j, xs, true) := by unfold outCh; rw [h]; rfl
theorem outCh_no {i j : Int} {xs : List Nat} (h : validCh i j xs = false) : outCh i j xs = (0, 0, [], false) := by unfold outCh; rw [h]; rfl
theorem outCh_len (i j : Int) (xs : List Nat) (h : xs.length ≤ 1048576) : (outCh i j xs).2.2.1.length ≤ 1048576 := by
  unfold outCh
  split
  · exact h
  · exact Nat.zero_le _
theorem RetSl.nul {w w' : World} {T : TypeId} {f : Value → Value} (hb : Below w.heap.size w w') : RetSl w T 0 [] f (.returned (f (.slice Option.none 0 0))) w' := ⟨Option.none, 0, rfl, World.ownsRow_nil _ _ _ _, hb⟩
theorem i64_8 {a : Nat} (h : a ≤ 8) : I64 a := ⟨by omega, by omega⟩
/-- A call of a Go function (or of a function value), as one step of a region that draws; what it leaves is told by R. -/
theorem step_callR {P : Program} {ops : Array Oper} {o : Oper} {A : Act} {w : World} {K : Act → World → Prop} {Q : Exit → Act → World → Prop} {E : Prop} {f : FuncId} (hen : ∀ args w, (callFunc f args).run P w = .ok (.enter f args) w) (vals cap : List Value) (v : Value) (R : World → Prop) (hc : Calls P f (vals ++ cap).toArray w fun e w' => e = .returned v ∧ R w')
    (hgd : o.guard = none) (callee : Operand) (argOps : List Operand) (tys : Array TypeId)
    (hop : o.op = .call { callee := .value callee, args := argOps.toArray, argTypes := tys }) (hcal : A.eval callee = .func (.func f) #[] cap.toArray) (hargs : argOps.map A.eval = vals) (hK : ∀ W', R W' → K (A.put o.dst v) W') :
    if Region.wanted o (yielded ops A.tmps) = true then Oper.wp P o A w K Q else E := by
  have hw : Region.wanted o (yielded ops A.tmps) = true := by simp [Region.wanted, hgd]
  rw [if_pos hw]
  have hrun : (execOp A.eval o).run P w = .ok (.enter f (vals ++ cap).toArray) w := by
    simp [execOp, hop, resolve, Deferred.ofValue, hcal, invoke, hargs, hen, Result.andThen]
  unfold Oper.wp
  rw [hrun, Oper.upon_enter]
  exact hc.mono (by rintro e w' ⟨rfl, h⟩; exact hK _ h)

end Go.Proofs.Ytmocfnpbofeiiaa

/- Channels that lose letters, flip them, or make the next ones of them: the program's part. -/
namespace Go.Proofs.Ytmocfnpbofeiiaa
set_option linter.unusedSimpArgs false
set_option linter.unusedVariables false
open Go.RowKit

def shB (x : Nat) : Bool := decide (x ≤ 1065353216 ∨ x = 2147483648)
def sub1 (x : Nat) : Nat := fA .sub .f32 1065353216 x
theorem sub1_some {x : Nat} (h : shB x = true) : (floatBits .sub .f32 1065353216 x).isSome = true := by
  rcases of_decide_eq_true h with h | h
  · exact (sub_one (s := x) (by omega)).2.1
  · subst h; decide +kernel
theorem sh_ch {x : Nat} (h : shB x = true) : Ch x := by
  rcases of_decide_eq_true h with h | h
  · exact .inl (by omega)
  · exact .inr h
theorem fA_lt {op : BinOp} {x y : Nat} (h : (floatBits op .f32 x y).isSome = true) : fA op .f32 x y < 4294967296 := by
  have h2 := fA_wf h
  simp [Lit.wf] at h2
  exact h2
def fLose (x n i k : Nat) : Nat := if k = i then sub1 x else if k = n then x else 0
def fNext (x n i k : Nat) : Nat := if k = i then sub1 x else if k = (i + 1) % n then x else 0
def fFlip (x n i k : Nat) : Nat := if i = k then sub1 x else fA .quo .f32 x (floatOfInt .f32 ((n - 1 : Nat) : Int))
theorem part_some {x n : Nat} (h : shB x = true) (h1 : 2 ≤ n) (h2 : n ≤ 8) : (floatBits .quo .f32 x (floatOfInt .f32 ((n - 1 : Nat) : Int))).isSome = true := by
  have hn : n - 1 = 1 ∨ n - 1 = 2 ∨ n - 1 = 3 ∨ n - 1 = 4 ∨ n - 1 = 5 ∨ n - 1 = 6 ∨ n - 1 = 7 := by omega
  refine (div_ch (sh_ch h) ?_ ?_).1
  · rcases hn with e | e | e | e | e | e | e <;> rw [e] <;> decide +kernel
  · rcases hn with e | e | e | e | e | e | e <;> rw [e] <;> decide +kernel
theorem sub1_lt {x : Nat} (h : shB x = true) : sub1 x < 4294967296 := fA_lt (sub1_some h)
theorem sh_lt {x : Nat} (h : shB x = true) : x < 4294967296 := by
  rcases of_decide_eq_true h with h | h <;> omega
theorem fLose_lt {x : Nat} (h : shB x = true) (n i k : Nat) : fLose x n i k < 4294967296 := by
  unfold fLose
  split
  · exact sub1_lt h
  · split
    · exact sh_lt h
    · omega
theorem fNext_lt {x : Nat} (h : shB x = true) (n i k : Nat) : fNext x n i k < 4294967296 := by
  unfold fNext
  split
  · exact sub1_lt h
  · split
    · exact sh_lt h
    · omega
theorem fFlip_lt {x n : Nat} (h : shB x = true) (h1 : 2 ≤ n) (h2 : n ≤ 8) (i k : Nat) : fFlip x n i k < 4294967296 := by
  unfold fFlip
  split
  · exact sub1_lt h
  · exact fA_lt (part_some h h1 h2)
def out_LoseChannel (l : Int) (x : Nat) : Int × Int × List Nat × Bool := if inB l 1 7 && shB x then outCh l (l + 1) (chA (fLose x l.toNat) (l.toNat + 1) l.toNat) else (0, 0, [], false)
def out_NextChannel (l : Int) (x : Nat) : Int × Int × List Nat × Bool := if inB l 2 8 && shB x then outCh l l (chA (fNext x l.toNat) l.toNat l.toNat) else (0, 0, [], false)
def out_FlipChannel (l : Int) (x : Nat) : Int × Int × List Nat × Bool := if inB l 2 8 && shB x then outCh l l (chA (fFlip x l.toNat) l.toNat l.toNat) else (0, 0, [], false)
theorem len_LoseChannel (l : Int) (_ : I64 l) (x : Nat) (_ : x < 4294967296) : (out_LoseChannel l x).2.2.1.length ≤ 1048576 := by
  unfold out_LoseChannel
  split
  · rename_i h
    rw [Bool.and_eq_true] at h
    have := inB_true h.1
    refine outCh_len _ _ _ ?_
    rw [chA_length]
    have : l.toNat * (l.toNat + 1) ≤ 8 * 8 := Nat.mul_le_mul (by omega) (by omega)
    omega
  · exact Nat.zero_le _
theorem len_NextChannel (l : Int) (_ : I64 l) (x : Nat) (_ : x < 4294967296) : (out_NextChannel l x).2.2.1.length ≤ 1048576 := by
  unfold out_NextChannel
  split
  · rename_i h
    rw [Bool.and_eq_true] at h
    have := inB_true h.1
    refine outCh_len _ _ _ ?_
    rw [chA_length]
    have : l.toNat * l.toNat ≤ 8 * 8 := Nat.mul_le_mul (by omega) (by omega)
    omega
  · exact Nat.zero_le _
theorem len_FlipChannel (l : Int) (_ : I64 l) (x : Nat) (_ : x < 4294967296) : (out_FlipChannel l x).2.2.1.length ≤ 1048576 := by
  unfold out_FlipChannel
  split
  · rename_i h
    rw [Bool.and_eq_true] at h
    have := inB_true h.1
    refine outCh_len _ _ _ ?_
    rw [chA_length]
    have : l.toNat * l.toNat ≤ 8 * 8 := Nat.mul_le_mul (by omega) (by omega)
    omega
  · exact Nat.zero_le _

end Go.Proofs.Ytmocfnpbofeiiaa

/- Channels that lose letters, flip them, or make the next ones of them: the program's contracts. -/
namespace Go.Proofs.Ytmocfnpbofeiiaa
set_option linter.unusedSimpArgs false
set_option linter.unusedVariables false
open Go.RowKit

end Go.Proofs.Ytmocfnpbofeiiaa

/- Channels that lose letters, or make the next ones of them: the reference's contracts. -/
namespace Go.Proofs.Ytmocfnpbofeiiaa
set_option linter.unusedSimpArgs false
set_option linter.unusedVariables false
open Go.RowKit

theorem row_set (m k q u v : Nat) (hk : k < m) (hq : q < m) (hne : k ≠ q) : ((List.replicate m 0).set k u).set q v = (List.range m).map (fun t => if t = k then u else if t = q then v else 0) := by
  apply List.ext_getElem?
  intro t
  by_cases ht : t < m
  · rw [List.getElem?_map, List.getElem?_range ht, Option.map_some]
    by_cases e1 : t = q
    · subst e1
      rw [List.getElem?_set_self (by simp; exact ht), if_neg (fun e => hne e.symm), if_pos rfl]
    · rw [List.getElem?_set_ne (fun e => e1 e.symm)]
      by_cases e2 : t = k
      · subst e2
        rw [List.getElem?_set_self (by simp; exact ht), if_pos rfl]
      · rw [List.getElem?_set_ne (fun e => e2 e.symm), if_neg e2, if_neg e1, List.getElem?_replicate, if_pos ht]
  · rw [List.getElem?_eq_none (by simp; omega), List.getElem?_eq_none (by simp; omega)]
/-- The chances when the first k rows are put and the rest is zero. -/
def fillL (f : Nat → Nat → Nat) (m n k : Nat) : List Nat := chA f m k ++ List.replicate ((n - k) * m) 0
theorem fill_length (f : Nat → Nat → Nat) (m n k : Nat) (h : k ≤ n) : (fillL f m n k).length = n * m := by
  unfold fillL
  rw [List.length_append, chA_length, List.length_replicate, ← Nat.add_mul]
  congr 1; omega
theorem fill_step (f : Nat → Nat → Nat) (m n k q u v : Nat) (hk : k < n) (hkm : k < m) (hq : q < m) (hne : k ≠ q) (hf : chR f k m = (List.range m).map (fun t => if t = k then u else if t = q then v else 0)) :
    ((fillL f m n k).set (k * m + k) u).set (k * m + q) v = fillL f m n (k + 1) := by
  unfold fillL
  have e : (n - k) * m = m + (n - (k + 1)) * m := by
    rw [show n - k = (n - (k + 1)) + 1 by omega, Nat.add_mul, Nat.one_mul, Nat.add_comm]
  rw [e, ← List.replicate_append_replicate, ← List.append_assoc]
  have l1 : (chA f m k ++ List.replicate m 0).length = k * m + m := by rw [List.length_append, chA_length, List.length_replicate]
  have s1 : (chA f m k ++ List.replicate m 0).set (k * m + k) u = chA f m k ++ (List.replicate m 0).set k u := by
    rw [List.set_append_right _ _ (by rw [chA_length]; omega), chA_length, Nat.add_sub_cancel_left]
  have l2 : (chA f m k ++ (List.replicate m 0).set k u).length = k * m + m := by rw [← s1, List.length_set, l1]
  have s2 : (chA f m k ++ (List.replicate m 0).set k u).set (k * m + q) v = chA f m k ++ ((List.replicate m 0).set k u).set q v := by
    rw [List.set_append_right _ _ (by rw [chA_length]; omega), chA_length, Nat.add_sub_cancel_left]
  rw [List.set_append_left _ _ (by rw [l1]; omega), s1, List.set_append_left _ _ (by rw [l2]; omega), s2, row_set m k q u v hkm hq hne, ← hf, chA_succ]
/-- What lies in another block than the one that is written. -/
theorem cell_gb {W W' : World} {a : Addr} {x : Value} {g : Nat} (h : W.cell? a = some x) (hg : W.grownBy W' (some g)) (hne : a.block ≠ g) : W'.cell? a = some x :=
  cell_grown (u := .slice (some ⟨g, 0, none⟩) 0 0) h hg (fun k hk => by simp [Value.ownBlock] at hk; omega)
theorem frozen_gb {W W' : World} {a : Addr} {x : Bool} {g : Nat} (h : W.frozen? a = x) (hl : a.block < W.heap.size) (hg : W.grownBy W' (some g)) (hne : a.block ≠ g) : W'.frozen? a = x :=
  (World.frozen?_of_block (hg.block a.block hl (fun e => hne (by injection e)))).trans h
theorem own_dr {w : World} {b : Nat} {e : TypeId} {s : Nat} {v : Value} {n : Nat} {xs : List Value} (h : w.ownsRow b e s v n xs) : w.drew.ownsRow b e s v n xs := ownsRow_below h ((Qu.refl _).drew).keep
theorem grown_dr {a w : World} {row : Option Nat} (h : a.grownBy w row) : a.grownBy w.drew row := ⟨h.os, h.tape, h.output, h.size, h.block⟩
theorem SlR.set {w : World} {g n c : Nat} {xs : List Value} (h : SlR w (.slice (some ⟨g, 0, none⟩) n c) xs) {b o : Nat} (hne : b ≠ g) (u : Value) : SlR (w.setCell ⟨b, o, none⟩ u) (.slice (some ⟨g, 0, none⟩) n c) xs := by
  obtain ⟨a, c', h1, h2, h3, h4⟩ := h
  refine ⟨a, c', h1, h2, h3, fun k v hv => ?_⟩
  obtain ⟨b', off, ha, hc⟩ := h4 k v hv
  simp only [Value.slice.injEq] at h1
  rw [ha] at h1
  simp only [Option.some.injEq, Addr.mk.injEq] at h1
  obtain ⟨⟨rfl, rfl, _⟩, _⟩ := h1
  exact ⟨g, 0, ha, by rw [World.cell?_setCell_other (h := fun e => hne (by injection e))]; exact hc⟩
theorem fLose_row (x n k : Nat) : chR (fLose x n) k (n + 1) = (List.range (n + 1)).map (fun t => if t = k then sub1 x else if t = n then x else 0) := rfl
theorem fNext_row (x n k : Nat) : chR (fNext x n) k n = (List.range n).map (fun t => if t = k then sub1 x else if t = (k + 1) % n then x else 0) := rfl

end Go.Proofs.Ytmocfnpbofeiiaa

/- Channels that flip letters: the reference's contract. -/
namespace Go.Proofs.Ytmocfnpbofeiiaa
set_option linter.unusedSimpArgs false
set_option linter.unusedVariables false
open Go.RowKit

/-- What an append to the struct's slice gave, in a plain region. -/
theorem StB.app {W w1 : World} {g : Nat} {i j : Int} {a : Option Addr} {c : Nat} {ys : List Nat} {y : Nat} {v1 : Value} (h : StB W g i j a c ys) (ho : w1.ownsRow (g + 1) 32 1 v1 (ys.length + 1) (ys.map (Value.float .f32) ++ [.float .f32 y])) (hg : W.grownBy w1 (Value.slice a ys.length c).ownBlock) :
    ∃ g2 c2, v1 = .slice (some ⟨g2, 0, none⟩) (ys.length + 1) c2 ∧ w1.cell? ⟨g, 2, none⟩ = some (.slice a ys.length c) ∧ w1.frozen? ⟨g, 2, none⟩ = false := by
  obtain ⟨a1, c1, rfl⟩ := ownsRow_shape ho
  obtain ⟨g2, rfl, -, -⟩ := own_some ho (by omega)
  have hu : ∀ k, (Value.slice a ys.length c).ownBlock = some k → k ≠ g := fun k hk => by have := own_grown_lt h.2.2.2.2 k hk; omega
  exact ⟨g2, c1, rfl, cell_grown h.2.2.1 hg hu, (World.frozen?_of_block (a := ⟨g, 2, none⟩) (hg.block g h.lt (fun e => hu g e.symm rfl))).trans h.2.2.2.1⟩

end Go.Proofs.Ytmocfnpbofeiiaa
