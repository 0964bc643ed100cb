/- Texts of complex numbers read: ReadComplex. -/
import Derived.Test.YtimhljcebeiofaaGreatDoorPrN
namespace Go.Proofs.YtimhljcebeiofaaGreatDoor
set_option linter.unusedSimpArgs false
set_option linter.unusedVariables false
open Go.RowKit
open Go.Lib
theorem run_enterP {P : Program} {f : FuncId} {fn : Func} (hf : P.funcs[f]? = some fn) (hname : (fn.name == "runtime.NumGoroutine") = false) (hb : fn.body.isSome = true) (args : Array Value) (w : World) : (callFunc f args).run P w = .ok (.enter f args) w := by
  obtain ⟨c, hc⟩ := Option.isSome_iff_exists.1 hb
  have h1 : fn.name ≠ "runtime.NumGoroutine" := by simpa using hname
  simp [callFunc, hf, h1, hc, mark, Sem.run]
/-- A call whose result is told by R, in a region that draws. -/
theorem step_callP {P : Program} {ops : Array Oper} {o : Oper} {A : Act} {w : World} {K : Act → World → Prop} {Q : Exit → Act → World → Prop} {E : Prop} {f : FuncId} (hen : ∀ args w, (callFunc f args).run P w = .ok (.enter f args) w) (vals cap : List Value) (R : Value → World → Prop) (hc : Calls P f (vals ++ cap).toArray w fun e w' => ∃ v, e = .returned v ∧ R v w')
    (hgd : o.guard = none) (callee : Operand) (argOps : List Operand) (tys : Array TypeId)
    (hop : o.op = .call { callee := .value callee, args := argOps.toArray, argTypes := tys }) (hcal : A.eval callee = .func (.func f) #[] cap.toArray) (hargs : argOps.map A.eval = vals) (hK : ∀ v W', R v W' → K (A.put o.dst v) W') :
    if Region.wanted o (yielded ops A.tmps) = true then Oper.wp P o A w K Q else E := by
  have hw : Region.wanted o (yielded ops A.tmps) = true := by simp [Region.wanted, hgd]
  rw [if_pos hw]
  have hrun : (execOp A.eval o).run P w = .ok (.enter f (vals ++ cap).toArray) w := by
    simp [execOp, hop, resolve, Deferred.ofValue, hcal, invoke, hargs, hen, Result.andThen]
  unfold Oper.wp
  rw [hrun, Oper.upon_enter]
  exact hc.mono (by rintro e w' ⟨v, rfl, h⟩; exact hK _ _ h)
theorem run_cut8_l (l : List UInt8) (h : 8 ≤ l.length) (W : World) :
    (Instr.slice 9 (.string ⟨l.toArray⟩) (some (.int .i64 8)) none none).run Tryz.prog W = .ok (.string ⟨(l.drop 8).toArray⟩) W := by
  rw [run_slice_string_l (h0 := by omega) (h1 := by show (8 : Int) ≤ ((l.toArray.size : Nat) : Int); simp; omega)]
  · rw [show (ByteArray.mk l.toArray).size = l.toArray.size from rfl, ByteArray.extract_mk, List.take_of_length_le (by simp)]
    rfl
  · exact Tryz.underlying9
theorem run_cut8_h (l : List UInt8) (h : 8 ≤ l.length) (W : World) :
    (Instr.slice 9 (.string ⟨l.toArray⟩) none (some (.int .i64 8)) none).run Tryz.prog W = .ok (.string ⟨(l.take 8).toArray⟩) W := by
  rw [run_slice_string_h (h0 := by omega) (h2 := by show (8 : Int) ≤ ((l.toArray.size : Nat) : Int); simp; omega)]
  · rw [ByteArray.extract_mk]
    rfl
  · exact Tryz.underlying9

set_option maxRecDepth 10000 in
set_option maxHeartbeats 8000000 in
theorem readComplex_any (cs : List (Nat × Nat)) (hw : Wd cs) (hn : cs.length ≤ 64) (w : World) (h : w.cell? ⟨6, 15, none⟩ = some (.int .u8 4)) (hm : ∃ m, w.cell? ⟨4, 0, none⟩ = some (.int .i64 m)) :
    Calls Tryz.prog 17 #[.string ⟨(txL cs).toArray⟩] w fun e w' => (∃ v, e = .returned (.tuple #[v, .bool true]) ∧ SlR w' v ((cs.map cC).map cV)) ∧ Below w.heap.size w w' := by
  obtain ⟨i0, hi0, hz00, hz01, hz02⟩ := info_parts info_ComplexS
  have HPI : Hid (∀ W, Below w.heap.size w W → Calls Tryz.prog 38 #[.string ⟨(txL cs).toArray⟩] W fun e w' => (∃ a c, e = .returned (.slice a cs.length c) ∧ SlR w' (.slice a cs.length c) ((cs.map pcL).map tV) ∧ ∀ x, a = some x → W.heap.size ≤ x.block) ∧ Below W.heap.size W w') := Lib.hid fun W hW => by
    obtain ⟨m, hm⟩ := hm
    exact pieces_any cs hw (by omega) W ⟨m, cell_step hm hW⟩
  have HCT : Hid (∀ (W : World) (u : Value), Below w.heap.size w W → SlR W u ((cs.map cC).map cV) → Calls Tryz.prog 16 #[u] W fun e w' => e = .returned (.tuple #[.string ⟨(txL cs).toArray⟩, .bool true]) ∧ Below W.heap.size W w') := Lib.hid fun W u hW hu => by
    have := complexText_any (cs.map cC) (fun c hc => by
      obtain ⟨d, hd, rfl⟩ := List.mem_map.1 hc
      exact ⟨bC_lt (hw d hd).1, bC_lt (hw d hd).2⟩) (by rw [List.length_map]; omega) u W hu (cell_step h hW)
    rwa [txL_cC] at this
  have HW := Lib.hid hw
  have hown0 : (w.alloc (.cells #[] 24)).ownsRow w.heap.size 24 1 (.slice (some ⟨w.heap.size, 0, none⟩) 0 0) 0 [] := World.ownsRow_made w #[] 0 (Nat.le_refl _) (Nat.zero_le _) rfl
  have hb0 : Below w.heap.size w (w.alloc (.cells #[] 24)) := by go_grown
  clear hw h hm
  obtain ⟨n, hnl⟩ : ∃ n, n = cs.length := ⟨_, rfl⟩
  rw [← hnl] at HPI hn
  have HN := Lib.hid hnl
  clear hnl
  generalize txL cs = t at *
  go_enter Tryz.func17, Tryz.ntmps17
  go_upto_region 3 with (go_at_call 38; refine (HPI.out _ hb0).mono ?_; rintro e w1 ⟨⟨a, c, rfl, hsl, hab⟩, hb1⟩; have hown1 := ownsRow_below hown0 hb1; have hbb1 := hb0.trans (hb1.mono hb0.size); have hbs1 := hbb1.size)
  obtain ⟨a', n', c', e, hnl', hnc, hcm, hcell⟩ := SlR.opened (f := fun c => tV (pcL c)) ((0, 0) : Nat × Nat) (by rw [List.map_map] at hsl; exact hsl)
  simp only [Value.slice.injEq] at e
  obtain ⟨rfl, rfl, rfl⟩ := e
  have HC := Lib.hid hcell
  have HAB : Hid (∀ x, a = some x → w.heap.size < x.block) := Lib.hid fun x hx => by have := hab x hx; rw [World.size_alloc] at this; omega
  have hz10 : w.heap.size < w1.heap.size := by have := hb1.size; rw [World.size_alloc] at this; omega
  clear hab hcell hsl hown0 hb1 HPI hnl'
  go_loopw [4, 6, 13] (fun o _ i wr => ∃ k : Nat, k ≤ n ∧ i = .int .i64 (k : Int) ∧ wr.ownsRow w.heap.size 24 1 o k (((cs.take k).map cC).map cV) ∧ Hid (∀ q, o.ownBlock = some q → q = w.heap.size ∨ w1.heap.size ≤ q) ∧ Hid (∀ b, w.heap.size < b → b < w1.heap.size → wr.heap[b]? = w1.heap[b]?) ∧ w1.heap.size ≤ wr.heap.size ∧ Below w.heap.size w wr) (fun _ _ i _ => n - intOf i)
  case atStart => exact ⟨0, Nat.zero_le _, rfl, hown1, Lib.hid (fun q hq => by simp [Value.ownBlock] at hq; exact .inl hq.symm), Lib.hid (fun b _ _ => rfl), Nat.le_refl _, hbb1⟩
  case round =>
    clear hown1 hbb1
    obtain ⟨k, hk, rfl, hown, hq, hbk, hz1, hbw⟩ := hrel
    have hbs := hbw.size
    obtain ⟨a5, c5, rfl⟩ := ownsRow_shape hown
    by_cases hlt : k < n
    · obtain ⟨bb, off, rfl, hc0, hbl⟩ := HC.out k hlt
      have hcc := (World.cell?_of_block (a := ⟨bb, off + k, none⟩) (hbk.out bb (HAB.out _ rfl) hbl)).trans hc0
      have hkl : k < cs.length := by have := HN.out; omega
      have hcd : cs.getD k (0, 0) = cs[k] := by rw [List.getD_eq_getElem?_getD, List.getElem?_eq_getElem hkl, Option.getD_some]
      have hwx := HW.out _ (List.getElem_mem hkl)
      have HS : Hid (((cs.take (k + 1)).map cC).map cV = ((cs.take k).map cC).map cV ++ [.complex .f32 (bC cs[k].1) (bC cs[k].2)]) := Lib.hid (by rw [List.take_succ_eq_append_getElem hkl, List.map_append, List.map_append]; rfl)
      rw [hcd] at hcc
      clear hc0 hcd
      generalize cs[k] = z at *
      have hp16 := pcL_len hwx
      obtain ⟨ht1, ht2⟩ := pcL_take hwx
      have hc1 := run_cut8_h (pcL z) (by omega)
      have hc2 := run_cut8_l (pcL z) (by omega)
      rw [ht1] at hc1
      rw [ht2] at hc2
      have hx : bC z.1 < 4294967296 := bC_lt hwx.1
      have hy : bC z.2 < 4294967296 := bC_lt hwx.2
      have HRX := Lib.hid (fun W => readHex_any _ hx W)
      have HRY := Lib.hid (fun W => readHex_any _ hy W)
      clear hwx ht1 ht2
      generalize pcL z = P at *
      generalize bC z.1 = x at *
      generalize bC z.2 = y at *
      generalize hex8 x = A at *
      generalize hex8 y = B at *
      have hk256 : ¬ k = 256 := by omega
      go_upto_region 7 with fail
      have hbD : Below w.heap.size w wr.drew := Below.drew hbw
      have YA := fun (ops : Array Oper) (o : Oper) (A' : Act) (K : Act → World → Prop) (Q : Exit → Act → World → Prop) (E : Prop) => step_callP (P := Tryz.prog) (ops := ops) (o := o) (A := A') (w := wr.drew) (K := K) (Q := Q) (E := E) (fun args w => run_enterP Tryz.func39 (by kernel_rfl) (by kernel_rfl) args w) [tV A] [] (fun v W' => v = .float .f32 x ∧ Below wr.drew.heap.size wr.drew W') ((HRX.out _).mono (fun e w' ⟨h1, h2⟩ => ⟨_, h1, rfl, h2⟩))
      have YB := fun (W8 : World) (ops : Array Oper) (o : Oper) (A' : Act) (K : Act → World → Prop) (Q : Exit → Act → World → Prop) (E : Prop) => step_callP (P := Tryz.prog) (ops := ops) (o := o) (A := A') (w := W8) (K := K) (Q := Q) (E := E) (fun args w => run_enterP Tryz.func39 (by kernel_rfl) (by kernel_rfl) args w) [tV B] [] (fun v W' => v = .float .f32 y ∧ Below W8.heap.size W8 W') ((HRY.out _).mono (fun e w' ⟨h1, h2⟩ => ⟨_, h1, rfl, h2⟩))
      have XF := fun (W8 W9 : World) (hb8 : Below wr.drew.heap.size wr.drew W8) (hb9 : Below W8.heap.size W8 W9) (ops : Array Oper) (o : Oper) (a : Act) (K : Act → World → Prop) (Q : Exit → Act → World → Prop) (E : Prop) h1 h2 h3 h4 h6 => step_append_lies (P := Tryz.prog) (ops := ops) (o := o) (a := a) (K := K) (Q := Q) (E := E) (W9.alloc (.cells #[.complex .f32 x y] 24)) h1 (.tmp 25) (.tmp 33) 25 h2 w.heap.size 24 i0 (.complex .f32 0 0) 1 8 Tryz.underlying25 hi0 hz00 hz01 hz02 rfl (by omega) (.slice a5 k c5) k _ h3 ((ownsRow_below (ownsRow_below (ownsRow_below hown (Below.drew (Below.refl _ _))) hb8) hb9).alloc _) ⟨W9.heap.size, 0, none⟩ 1 1 [.complex .f32 x y] h4 rfl (cell_one_new _ _ _) (one_oneCell rfl) (by omega) (by unfold maxLen; omega) (by omega) (by have := hbD.size; have := hb8.size; have := hb9.size; simp only [World.size_alloc]; omega) (W9.heap.size + 1) (by rw [World.size_alloc]) h6
      go_region_law (first
        | ((with_reducible refine YA _ _ _ _ _ _ ?_ (.func 39) [.tmp 27] #[9] ?_ ?_ ?_ ?_); rfl; rfl; rfl; rfl; rintro zz W8 ⟨rfl, hb8⟩)
        | ((with_reducible refine YB W8 _ _ _ _ _ _ ?_ (.func 39) [.tmp 30] #[9] ?_ ?_ ?_ ?_); rfl; rfl; rfl; rfl; rintro zz W9 ⟨rfl, hb9⟩)
        | (refine XF W8 W9 hb8 hb9 _ _ _ _ _ _ rfl rfl rfl rfl ?_; intro g2 c2' wA hown2 hgrow2 hat2 hlt2))
      all_goals
        have hgrow3 : (W9.alloc (.cells #[.complex .f32 x y] 24)).grownBy wA (Value.slice a5 k c5).ownBlock := ⟨hgrow2.1, hgrow2.2, hgrow2.3, hgrow2.4, hgrow2.5⟩
        have hz8 := hb8.size
        have hz9 := hb9.size
        have hzD := hbD.size
        have hbA : Below w.heap.size w wA := Below.grown (((hbD.trans (hb8.mono hzD)).trans (hb9.mono (by omega))).alloc (by omega) _) hgrow3 (by simp only [World.size_alloc]; omega) (fun q hq => (hown.lt q hq).1)
        have hq2 : Hid (∀ q, (Value.slice (some ⟨g2, 0, none⟩) (k + 1) c2').ownBlock = some q → q = w.heap.size ∨ w1.heap.size ≤ q) := Lib.hid fun q h => by
          simp [Value.ownBlock] at h
          subst h
          rcases hat2 with h | h
          · exact hq.out _ h
          · right; rw [World.size_drew] at hz8; omega
        have hbk2 : Hid (∀ b, w.heap.size < b → b < w1.heap.size → wA.heap[b]? = w1.heap[b]?) := Lib.hid fun b h1 h2 => by
          have l1 : b < wr.drew.heap.size := Nat.lt_of_lt_of_le h2 hz1
          have l2 := Nat.lt_of_lt_of_le l1 hz8
          have l3 := Nat.lt_of_lt_of_le l2 hz9
          have s1 := hgrow3.block b (by rw [World.size_alloc]; omega) (fun e => by have := hq.out b e.symm; omega)
          have s2 : (W9.alloc (.cells #[.complex .f32 x y] 24)).heap[b]? = W9.heap[b]? := by rw [heap_alloc_old]; exact l3
          exact s1.trans (s2.trans ((hb9.block b l2).trans ((hb8.block b l1).trans (hbk.out b h1 h2))))
        have hz1A : w1.heap.size ≤ wA.heap.size := by
          have l1 : wr.heap.size ≤ wr.drew.heap.size := Nat.le_refl _
          have l2 := hgrow3.size
          rw [World.size_alloc] at l2
          omega
        rw [← HS.out] at hown2
        clear YA YB XF hgrow2
        go_wp2
        go_roundw
        case rel => exact ⟨k + 1, by omega, by go_num, hown2, hq2, hbk2, hz1A, hbA⟩
        case measure => simp [intOf]; omega
    · obtain rfl : n = k := by omega
      have e1 := hown
      rw [List.take_of_length_le (by have := HN.out; omega)] at e1
      have HSL := Lib.hid (SlR.own e1)
      have HCT2 := Lib.hid (HCT.out wr _ hbw HSL.out)
      clear e1 hown
      have htt : (t == t) = true := by simp
      go_wp2_with (go_at_call 16; refine HCT2.out.mono ?_; rintro e w5 ⟨rfl, hb5⟩)
      go_ret2
      exact ⟨⟨_, rfl, HSL.out.below hb5⟩, hbw.trans (hb5.mono hbs)⟩

end Go.Proofs.YtimhljcebeiofaaGreatDoor
