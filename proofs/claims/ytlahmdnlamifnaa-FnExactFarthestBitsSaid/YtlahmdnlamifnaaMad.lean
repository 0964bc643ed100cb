/- A channel whose chances a function tells, entry by entry. -/
import Derived.Test.YtlahmdnlamifnaaAsx
import Derived.Deep.DrawnRows
namespace Go.Proofs.Ytlahmdnlamifnaa
set_option linter.unusedSimpArgs false
set_option linter.unusedVariables false
open Go.RowKit

/-- Row i of a channel with chances f: its first k entries. -/
def chR (f : Nat → Nat → Nat) (i k : Nat) : List Nat := (List.range k).map (f i)
/-- The first i rows of m chances. -/
def chA (f : Nat → Nat → Nat) (m i : Nat) : List Nat := (List.range i).flatMap (fun q => chR f q m)
theorem chR_succ (f : Nat → Nat → Nat) (i k : Nat) : chR f i (k + 1) = chR f i k ++ [f i k] := by simp [chR, List.range_succ]
theorem chR_length (f : Nat → Nat → Nat) (i k : Nat) : (chR f i k).length = k := by simp [chR]
theorem chA_succ (f : Nat → Nat → Nat) (m i : Nat) : chA f m (i + 1) = chA f m i ++ chR f i m := by simp [chA, List.range_succ]
theorem chA_length (f : Nat → Nat → Nat) (m i : Nat) : (chA f m i).length = i * m := by
  induction i with
  | zero => simp [chA]
  | succ k ih => rw [chA_succ, List.length_append, ih, chR_length, Nat.add_mul, Nat.one_mul]
theorem chA_mem {f : Nat → Nat → Nat} {m i x : Nat} (h : x ∈ chA f m i) : ∃ q k, q < i ∧ k < m ∧ x = f q k := by
  unfold chA chR at h
  obtain ⟨q, hq, h2⟩ := List.mem_flatMap.1 h
  obtain ⟨k, hk, rfl⟩ := List.mem_map.1 h2
  exact ⟨q, k, List.mem_range.1 hq, List.mem_range.1 hk, rfl⟩
/-- What comes of chances: the channel, or none. -/
def outCh (i j : Int) (xs : List Nat) : Int × Int × List Nat × Bool := if validCh i j xs then (i, j, xs, true) else (0, 0, [], false)
theorem outCh_yes {i j : Int} {xs : List Nat} (h : validCh i j xs = true) : outCh i j xs = (i, j, xs, true) := by unfold outCh; rw [h]; rfl
theorem outCh_no {i j : Int} {xs : List Nat} (h : validCh i j xs = false) : outCh i j xs = (0, 0, [], false) := by unfold outCh; rw [h]; rfl
theorem outCh_len (i j : Int) (xs : List Nat) (h : xs.length ≤ 1048576) : (outCh i j xs).2.2.1.length ≤ 1048576 := by
  unfold outCh
  split
  · exact h
  · exact Nat.zero_le _
theorem RetSl.nul {w w' : World} {T : TypeId} {f : Value → Value} (hb : Below w.heap.size w w') : RetSl w T 0 [] f (.returned (f (.slice none 0 0))) w' := ⟨none, 0, rfl, World.ownsRow_nil _ _ _ _, hb⟩
theorem i64_8 {a : Nat} (h : a ≤ 8) : I64 a := ⟨by omega, by omega⟩
/-- A call of a Go function (or of a function value), as one step of a region that draws; what it leaves is told by R. -/
theorem step_callR {P : Program} {ops : Array Oper} {o : Oper} {A : Act} {w : World} {K : Act → World → Prop} {Q : Exit → Act → World → Prop} {E : Prop} {f : FuncId} (hen : ∀ args w, (callFunc f args).run P w = .ok (.enter f args) w) (vals cap : List Value) (v : Value) (R : World → Prop) (hc : Calls P f (vals ++ cap).toArray w fun e w' => e = .returned v ∧ R w')
    (hgd : o.guard = none) (callee : Operand) (argOps : List Operand) (tys : Array TypeId)
    (hop : o.op = .call { callee := .value callee, args := argOps.toArray, argTypes := tys }) (hcal : A.eval callee = .func (.func f) #[] cap.toArray) (hargs : argOps.map A.eval = vals) (hK : ∀ W', R W' → K (A.put o.dst v) W') :
    if Region.wanted o (yielded ops A.tmps) = true then Oper.wp P o A w K Q else E := by
  have hw : Region.wanted o (yielded ops A.tmps) = true := by simp [Region.wanted, hgd]
  rw [if_pos hw]
  have hrun : (execOp A.eval o).run P w = .ok (.enter f (vals ++ cap).toArray) w := by
    simp [execOp, hop, resolve, Deferred.ofValue, hcal, invoke, hargs, hen, Result.andThen]
  unfold Oper.wp
  rw [hrun, Oper.upon_enter]
  exact hc.mono (by rintro e w' ⟨rfl, h⟩; exact hK _ h)

set_option maxHeartbeats 4000000 in
theorem madeLose_any (p1 p2 : Value) (a m : Nat) (f : Nat → Nat → Nat) (w : World) (a1 : 1 ≤ a) (a2 : a ≤ 8) (m1 : 1 ≤ m) (m2 : m ≤ 8) (hf : ∀ i k, i < a → k < m → f i k < 4294967296)
    (hcl : ∀ (W : World) (i k : Nat), Below w.heap.size w W → i < a → k < m → Calls Try.prog 50 #[.int .i64 (i : Int), .int .i64 (k : Int), p1, p2] W fun e w' => e = .returned (.float .f32 (f i k)) ∧ Below W.heap.size W w') :
    Calls Try.prog 49 #[.int .i64 (a : Int), .int .i64 (m : Int), .func (.func 50) #[] #[p1, p2]] w (RetSl w 22 (outCh a m (chA f m a)).2.2.1.length ((outCh a m (chA f m a)).2.2.1.map (Value.float .f32)) (fun v => .tuple #[.agg #[.int .i64 (outCh a m (chA f m a)).1, .int .i64 (outCh a m (chA f m a)).2.1, v], .bool (outCh a m (chA f m a)).2.2.2])) := by
  have HCL := Lib.hid hcl
  have HF : Hid (∀ x ∈ chA f m a, x < 4294967296) := by
    show ∀ x ∈ _, _
    intro x hx
    obtain ⟨q, k, hq, hk, rfl⟩ := chA_mem hx
    exact hf q k hq hk
  obtain ⟨res, hres⟩ : ∃ res, res = outCh a m (chA f m a) := ⟨_, rfl⟩
  have HRES := Lib.hid hres
  rw [← hres]
  clear hcl hf hres
  go_enter Try.func49, Try.ntmps49
  go_wp2
  obtain ⟨W2, hW2⟩ : ∃ W2, W2 = (w.alloc (.cells #[.int .i64 0, .int .i64 0, .slice none 0 0] 25)).alloc (.cells #[.int .i64 (a : Int), .int .i64 (m : Int), .slice none 0 0] 25) := ⟨_, rfl⟩
  have hsz : W2.heap.size = w.heap.size + 2 := by rw [hW2]; simp
  have hbw : Below w.heap.size w W2 := by rw [hW2]; go_grown
  have d0 : World.cell? W2 ⟨w.heap.size, 0, none⟩ = some (.int .i64 0) := by rw [hW2]; go_cell
  have d1 : World.cell? W2 ⟨w.heap.size, 1, none⟩ = some (.int .i64 0) := by rw [hW2]; go_cell
  have d2 : World.cell? W2 ⟨w.heap.size, 2, none⟩ = some (.slice none 0 0) := by rw [hW2]; go_cell
  have hD : ∀ o, World.frozen? W2 ⟨w.heap.size, o, none⟩ = false := by intro o; rw [hW2, World.frozen?_alloc_past, World.frozen?_alloc_at] <;> simp
  have hS0 : StB W2 (w.heap.size + 1) a m none 0 (chA f m 0) := by
    refine ⟨?_, ?_, ?_, ?_, rfl, .inl ⟨rfl, rfl⟩⟩
    · rw [hW2]; go_cell
    · rw [hW2]; go_cell
    · show World.cell? W2 _ = some (.slice none 0 0)
      rw [hW2]; go_cell
    · rw [hW2, World.frozen?_alloc_at]; simp
  rw [← hW2]
  clear hW2
  go_loopw [15] (fun q wr => ∃ k : Nat, k ≤ a ∧ q = .int .i64 k ∧ (∃ ad cd, StB wr (w.heap.size + 1) a m ad cd (chA f m k)) ∧ Below (w.heap.size + 1) W2 wr) (fun q _ => a - (intOf q).toNat)
  case atStart => exact ⟨0, Nat.zero_le _, rfl, ⟨none, 0, hS0⟩, Below.refl _ _⟩
  case round =>
    clear hS0
    obtain ⟨k, hk, rfl, ⟨ad, cd, hS⟩, hb⟩ := hrel
    by_cases hlt : k < a
    · go_wp2
      obtain ⟨wo, hwo⟩ : ∃ wo : World, wo = wr := ⟨_, rfl⟩
      rw [← hwo] at hS hb ⊢
      clear hwo wr
      go_loopw [19] (fun q wr => ∃ r : Nat, r ≤ m ∧ q = .int .i64 r ∧ (∃ ad cd, StB wr (w.heap.size + 1) a m ad cd (chA f m k ++ chR f k r)) ∧ Below (w.heap.size + 1) W2 wr) (fun q _ => m - (intOf q).toNat)
      case atStart => exact ⟨0, Nat.zero_le _, rfl, ⟨ad, cd, by simpa [chR] using hS⟩, hb⟩
      case round =>
        clear hS hb
        obtain ⟨r, hr, rfl, ⟨ad, cd, hS⟩, hb⟩ := hrel
        by_cases hrlt : r < m
        · have HCS := Lib.hid (chR_succ f k r)
          have hcc := HCL.out wr.drew k r ((hbw.trans (hb.mono (by omega))).drew) hlt hrlt
          generalize f k r = y at *
          obtain ⟨zs, hzs⟩ : ∃ zs, zs = chA f m k ++ chR f k r := ⟨_, rfl⟩
          rw [← hzs] at hS
          have HZ := Lib.hid hzs
          have hzl : zs.length ≤ 4096 := by rw [HZ.out, List.length_append, chA_length, chR_length]; have : k * m ≤ 8 * 8 := Nat.mul_le_mul (by omega) (by omega); omega
          clear hzs
          have hlS := hS.lt
          have f2 := hS.2.2.1
          have HS := Lib.hid hS
          have HCC := Lib.hid hcc
          clear hS hcc
          go_wp2
          have Y := fun (ops : Array Oper) (o : Oper) (A : Act) (K : Act → World → Prop) (Q : Exit → Act → World → Prop) (E : Prop) => step_callR (P := Try.prog) (ops := ops) (o := o) (A := A) (w := wr.drew) (K := K) (Q := Q) (E := E) (fun args w => run_enter Try.func50 (by kernel_rfl) (by kernel_rfl) args w) [.int .i64 (k : Int), .int .i64 (r : Int)] [p1, p2] _ _ HCC.out
          go_region_law (first
            | ((with_reducible refine X _ _ _ _ _ _ ?_ (.tmp 23) (.tmp 28) ?_ ?_ ?_ ?_); rfl; rfl; rfl; rfl; intro g2 c2 w2 ho2 hg2 hc2 hf2)
            | ((with_reducible refine Y _ _ _ _ _ _ ?_ (.tmp 24) [.tmp 25, .tmp 26] #[2, 2] ?_ ?_ ?_ ?_); rfl; rfl; rfl; rfl; intro w1 hb1; have hS1 := HS.out.below ((Fr.refl _).drew.step hb1); have f2b := hS1.2.2.1; have hS2 : StB (w1.alloc (.cells #[.float .f32 y] 22)) (w.heap.size + 1) a m ad cd zs := hS1.below (by go_grown); have f2c := hS2.2.2.1; have hry : World.cell? (w1.alloc (.cells #[.float .f32 y] 22)) ⟨w1.heap.size, 0, none⟩ = some (.float .f32 y) := (by simp); have X := fun (ops : Array Oper) (o : Oper) (A : Act) (K : Act → World → Prop) (Q : Exit → Act → World → Prop) (E : Prop) h1 s x h2 h3 h4 h5 => StB.law (ops := ops) (o := o) (A := A) (K := K) (Q := Q) (E := E) hS2 hzl y w1.heap.size hry (w1.heap.size + 1) (by simp) h1 s x h2 h3 h4 h5))
          clear Y
          all_goals
            have hbd : Below (w.heap.size + 1) W2 (w1.alloc (.cells #[.float .f32 y] 22)) := ((hb.drew).trans (hb1.mono (Nat.le_of_lt hlS))).alloc (Nat.le_trans (Nat.le_of_lt hlS) hb1.size) _
            go_wp2
            exact ⟨⟨r + 1, by omega, by go_num, ⟨some ⟨g2, 0, none⟩, c2, by rw [HCS.out, ← List.append_assoc, ← HZ.out]; exact StB.push hS2 hg2 ho2⟩, push_below hbd hS2 (by omega) hg2⟩, by simp [intOf]; omega⟩
        · obtain rfl : m = r := by omega
          go_wp2
          go_roundw
          case rel => exact ⟨k + 1, by omega, by go_num, ⟨ad, cd, by rw [chA_succ]; exact hS⟩, hb⟩
          case measure => simp [intOf]; omega
    · obtain rfl : a = k := by omega
      have g0 := (hb.cell (p := ⟨w.heap.size, 0, none⟩) (show w.heap.size < w.heap.size + 1 by omega)).trans d0
      have g1 := (hb.cell (p := ⟨w.heap.size, 1, none⟩) (show w.heap.size < w.heap.size + 1 by omega)).trans d1
      have g2 := (hb.cell (p := ⟨w.heap.size, 2, none⟩) (show w.heap.size < w.heap.size + 1 by omega)).trans d2
      have z0 := (hb.frozen (p := ⟨w.heap.size, 0, none⟩) (show w.heap.size < w.heap.size + 1 by omega)).trans (hD 0)
      have z1 := (hb.frozen (p := ⟨w.heap.size, 1, none⟩) (show w.heap.size < w.heap.size + 1 by omega)).trans (hD 1)
      have z2 := (hb.frozen (p := ⟨w.heap.size, 2, none⟩) (show w.heap.size < w.heap.size + 1 by omega)).trans (hD 2)
      have hlS := hS.lt
      obtain ⟨s0, s1, s2, s3, s4⟩ := hS
      have b0 : Below w.heap.size w wr := hbw.trans (hb.mono (by omega))
      clear hD d0 d1 d2
      cases hv : validCh (a : Int) (m : Int) (chA f m a)
      · have HV := Lib.hid hv
        have hR : res = (0, 0, [], false) := by rw [HRES.out, outCh_no hv]
        have HR := Lib.hid hR
        clear hv hR
        go_wp2_with (go_at_call 72; refine (asChannel_no (a : Int) (m : Int) (i64_8 a2) (i64_8 m2) _ (chA f m a) _ (SlR.own s4) HF.out HV.out).mono ?_; rintro e w3 ⟨rfl, hb4⟩; have g0 := cell_step g0 hb4; have g1 := cell_step g1 hb4; have g2 := cell_step g2 hb4; have z0 := (hb4.frozen (p := ⟨w.heap.size, 0, none⟩) (show w.heap.size < wr.heap.size by omega)).trans z0; have z1 := (hb4.frozen (p := ⟨w.heap.size, 1, none⟩) (show w.heap.size < wr.heap.size by omega)).trans z1; have z2 := (hb4.frozen (p := ⟨w.heap.size, 2, none⟩) (show w.heap.size < wr.heap.size by omega)).trans z2; have hb5 := b0.trans (hb4.mono b0.size))
        refine bodyPost_ret (v := .tuple #[.agg #[.int .i64 0, .int .i64 0, .slice none 0 0], .bool false]) (by simp [results, Try.results49, go_sem, *]) rfl ?_
        rw [HR.out]
        exact RetSl.nul (f := fun v => .tuple #[.agg #[.int .i64 0, .int .i64 0, v], .bool false]) (((hb5.setCell (p := ⟨w.heap.size, 0, none⟩) (Nat.le_refl _) _).setCell (p := ⟨w.heap.size, 1, none⟩) (Nat.le_refl _) _).setCell (p := ⟨w.heap.size, 2, none⟩) (Nat.le_refl _) _)
      · have HV := Lib.hid hv
        have hR : res = ((a : Int), (m : Int), chA f m a, true) := by rw [HRES.out, outCh_yes hv]
        have HR := Lib.hid hR
        clear hv hR
        go_wp2_with (go_at_call 72; refine (asChannel_yes (a : Int) (m : Int) (i64_8 a2) (i64_8 m2) _ (chA f m a) _ (SlR.own s4) HF.out HV.out).mono ?_; rintro e w3 ⟨rfl, hb4⟩; have g0 := cell_step g0 hb4; have g1 := cell_step g1 hb4; have g2 := cell_step g2 hb4; have z0 := (hb4.frozen (p := ⟨w.heap.size, 0, none⟩) (show w.heap.size < wr.heap.size by omega)).trans z0; have z1 := (hb4.frozen (p := ⟨w.heap.size, 1, none⟩) (show w.heap.size < wr.heap.size by omega)).trans z1; have z2 := (hb4.frozen (p := ⟨w.heap.size, 2, none⟩) (show w.heap.size < wr.heap.size by omega)).trans z2; have hb5 := b0.trans (hb4.mono b0.size); have s5 := ownsRow_below s4 hb4)
        refine bodyPost_ret (v := .tuple #[.agg #[.int .i64 (a : Int), .int .i64 (m : Int), .slice ad (chA f m a).length cd], .bool true]) (by simp [results, Try.results49, go_sem, *]) rfl ?_
        rw [HR.out]
        dsimp only
        have o1 := ownsRow_setCell_below (a := ⟨w.heap.size, 0, none⟩) s5 (show w.heap.size < w.heap.size + 1 + 1 by omega) (.int .i64 (a : Int))
        have o2 := ownsRow_setCell_below (a := ⟨w.heap.size, 1, none⟩) o1 (show w.heap.size < w.heap.size + 1 + 1 by omega) (.int .i64 (m : Int))
        have o3 := ownsRow_setCell_below (a := ⟨w.heap.size, 2, none⟩) o2 (show w.heap.size < w.heap.size + 1 + 1 by omega) (.slice ad (chA f m a).length cd)
        exact RetSl.mk (f := fun v => .tuple #[.agg #[.int .i64 (a : Int), .int .i64 (m : Int), v], .bool true]) (ownsRow_base o3 (by omega)) (((hb5.setCell (p := ⟨w.heap.size, 0, none⟩) (Nat.le_refl _) _).setCell (p := ⟨w.heap.size, 1, none⟩) (Nat.le_refl _) _).setCell (p := ⟨w.heap.size, 2, none⟩) (Nat.le_refl _) _)

set_option maxHeartbeats 4000000 in
theorem madeNext_any (p1 p2 : Value) (a m : Nat) (f : Nat → Nat → Nat) (w : World) (a1 : 1 ≤ a) (a2 : a ≤ 8) (m1 : 1 ≤ m) (m2 : m ≤ 8) (hf : ∀ i k, i < a → k < m → f i k < 4294967296)
    (hcl : ∀ (W : World) (i k : Nat), Below w.heap.size w W → i < a → k < m → Calls Try.prog 51 #[.int .i64 (i : Int), .int .i64 (k : Int), p1, p2] W fun e w' => e = .returned (.float .f32 (f i k)) ∧ Below W.heap.size W w') :
    Calls Try.prog 49 #[.int .i64 (a : Int), .int .i64 (m : Int), .func (.func 51) #[] #[p1, p2]] w (RetSl w 22 (outCh a m (chA f m a)).2.2.1.length ((outCh a m (chA f m a)).2.2.1.map (Value.float .f32)) (fun v => .tuple #[.agg #[.int .i64 (outCh a m (chA f m a)).1, .int .i64 (outCh a m (chA f m a)).2.1, v], .bool (outCh a m (chA f m a)).2.2.2])) := by
  have HCL := Lib.hid hcl
  have HF : Hid (∀ x ∈ chA f m a, x < 4294967296) := by
    show ∀ x ∈ _, _
    intro x hx
    obtain ⟨q, k, hq, hk, rfl⟩ := chA_mem hx
    exact hf q k hq hk
  obtain ⟨res, hres⟩ : ∃ res, res = outCh a m (chA f m a) := ⟨_, rfl⟩
  have HRES := Lib.hid hres
  rw [← hres]
  clear hcl hf hres
  go_enter Try.func49, Try.ntmps49
  go_wp2
  obtain ⟨W2, hW2⟩ : ∃ W2, W2 = (w.alloc (.cells #[.int .i64 0, .int .i64 0, .slice none 0 0] 25)).alloc (.cells #[.int .i64 (a : Int), .int .i64 (m : Int), .slice none 0 0] 25) := ⟨_, rfl⟩
  have hsz : W2.heap.size = w.heap.size + 2 := by rw [hW2]; simp
  have hbw : Below w.heap.size w W2 := by rw [hW2]; go_grown
  have d0 : World.cell? W2 ⟨w.heap.size, 0, none⟩ = some (.int .i64 0) := by rw [hW2]; go_cell
  have d1 : World.cell? W2 ⟨w.heap.size, 1, none⟩ = some (.int .i64 0) := by rw [hW2]; go_cell
  have d2 : World.cell? W2 ⟨w.heap.size, 2, none⟩ = some (.slice none 0 0) := by rw [hW2]; go_cell
  have hD : ∀ o, World.frozen? W2 ⟨w.heap.size, o, none⟩ = false := by intro o; rw [hW2, World.frozen?_alloc_past, World.frozen?_alloc_at] <;> simp
  have hS0 : StB W2 (w.heap.size + 1) a m none 0 (chA f m 0) := by
    refine ⟨?_, ?_, ?_, ?_, rfl, .inl ⟨rfl, rfl⟩⟩
    · rw [hW2]; go_cell
    · rw [hW2]; go_cell
    · show World.cell? W2 _ = some (.slice none 0 0)
      rw [hW2]; go_cell
    · rw [hW2, World.frozen?_alloc_at]; simp
  rw [← hW2]
  clear hW2
  go_loopw [15] (fun q wr => ∃ k : Nat, k ≤ a ∧ q = .int .i64 k ∧ (∃ ad cd, StB wr (w.heap.size + 1) a m ad cd (chA f m k)) ∧ Below (w.heap.size + 1) W2 wr) (fun q _ => a - (intOf q).toNat)
  case atStart => exact ⟨0, Nat.zero_le _, rfl, ⟨none, 0, hS0⟩, Below.refl _ _⟩
  case round =>
    clear hS0
    obtain ⟨k, hk, rfl, ⟨ad, cd, hS⟩, hb⟩ := hrel
    by_cases hlt : k < a
    · go_wp2
      obtain ⟨wo, hwo⟩ : ∃ wo : World, wo = wr := ⟨_, rfl⟩
      rw [← hwo] at hS hb ⊢
      clear hwo wr
      go_loopw [19] (fun q wr => ∃ r : Nat, r ≤ m ∧ q = .int .i64 r ∧ (∃ ad cd, StB wr (w.heap.size + 1) a m ad cd (chA f m k ++ chR f k r)) ∧ Below (w.heap.size + 1) W2 wr) (fun q _ => m - (intOf q).toNat)
      case atStart => exact ⟨0, Nat.zero_le _, rfl, ⟨ad, cd, by simpa [chR] using hS⟩, hb⟩
      case round =>
        clear hS hb
        obtain ⟨r, hr, rfl, ⟨ad, cd, hS⟩, hb⟩ := hrel
        by_cases hrlt : r < m
        · have HCS := Lib.hid (chR_succ f k r)
          have hcc := HCL.out wr.drew k r ((hbw.trans (hb.mono (by omega))).drew) hlt hrlt
          generalize f k r = y at *
          obtain ⟨zs, hzs⟩ : ∃ zs, zs = chA f m k ++ chR f k r := ⟨_, rfl⟩
          rw [← hzs] at hS
          have HZ := Lib.hid hzs
          have hzl : zs.length ≤ 4096 := by rw [HZ.out, List.length_append, chA_length, chR_length]; have : k * m ≤ 8 * 8 := Nat.mul_le_mul (by omega) (by omega); omega
          clear hzs
          have hlS := hS.lt
          have f2 := hS.2.2.1
          have HS := Lib.hid hS
          have HCC := Lib.hid hcc
          clear hS hcc
          go_wp2
          have Y := fun (ops : Array Oper) (o : Oper) (A : Act) (K : Act → World → Prop) (Q : Exit → Act → World → Prop) (E : Prop) => step_callR (P := Try.prog) (ops := ops) (o := o) (A := A) (w := wr.drew) (K := K) (Q := Q) (E := E) (fun args w => run_enter Try.func51 (by kernel_rfl) (by kernel_rfl) args w) [.int .i64 (k : Int), .int .i64 (r : Int)] [p1, p2] _ _ HCC.out
          go_region_law (first
            | ((with_reducible refine X _ _ _ _ _ _ ?_ (.tmp 23) (.tmp 28) ?_ ?_ ?_ ?_); rfl; rfl; rfl; rfl; intro g2 c2 w2 ho2 hg2 hc2 hf2)
            | ((with_reducible refine Y _ _ _ _ _ _ ?_ (.tmp 24) [.tmp 25, .tmp 26] #[2, 2] ?_ ?_ ?_ ?_); rfl; rfl; rfl; rfl; intro w1 hb1; have hS1 := HS.out.below ((Fr.refl _).drew.step hb1); have f2b := hS1.2.2.1; have hS2 : StB (w1.alloc (.cells #[.float .f32 y] 22)) (w.heap.size + 1) a m ad cd zs := hS1.below (by go_grown); have f2c := hS2.2.2.1; have hry : World.cell? (w1.alloc (.cells #[.float .f32 y] 22)) ⟨w1.heap.size, 0, none⟩ = some (.float .f32 y) := (by simp); have X := fun (ops : Array Oper) (o : Oper) (A : Act) (K : Act → World → Prop) (Q : Exit → Act → World → Prop) (E : Prop) h1 s x h2 h3 h4 h5 => StB.law (ops := ops) (o := o) (A := A) (K := K) (Q := Q) (E := E) hS2 hzl y w1.heap.size hry (w1.heap.size + 1) (by simp) h1 s x h2 h3 h4 h5))
          clear Y
          all_goals
            have hbd : Below (w.heap.size + 1) W2 (w1.alloc (.cells #[.float .f32 y] 22)) := ((hb.drew).trans (hb1.mono (Nat.le_of_lt hlS))).alloc (Nat.le_trans (Nat.le_of_lt hlS) hb1.size) _
            go_wp2
            exact ⟨⟨r + 1, by omega, by go_num, ⟨some ⟨g2, 0, none⟩, c2, by rw [HCS.out, ← List.append_assoc, ← HZ.out]; exact StB.push hS2 hg2 ho2⟩, push_below hbd hS2 (by omega) hg2⟩, by simp [intOf]; omega⟩
        · obtain rfl : m = r := by omega
          go_wp2
          go_roundw
          case rel => exact ⟨k + 1, by omega, by go_num, ⟨ad, cd, by rw [chA_succ]; exact hS⟩, hb⟩
          case measure => simp [intOf]; omega
    · obtain rfl : a = k := by omega
      have g0 := (hb.cell (p := ⟨w.heap.size, 0, none⟩) (show w.heap.size < w.heap.size + 1 by omega)).trans d0
      have g1 := (hb.cell (p := ⟨w.heap.size, 1, none⟩) (show w.heap.size < w.heap.size + 1 by omega)).trans d1
      have g2 := (hb.cell (p := ⟨w.heap.size, 2, none⟩) (show w.heap.size < w.heap.size + 1 by omega)).trans d2
      have z0 := (hb.frozen (p := ⟨w.heap.size, 0, none⟩) (show w.heap.size < w.heap.size + 1 by omega)).trans (hD 0)
      have z1 := (hb.frozen (p := ⟨w.heap.size, 1, none⟩) (show w.heap.size < w.heap.size + 1 by omega)).trans (hD 1)
      have z2 := (hb.frozen (p := ⟨w.heap.size, 2, none⟩) (show w.heap.size < w.heap.size + 1 by omega)).trans (hD 2)
      have hlS := hS.lt
      obtain ⟨s0, s1, s2, s3, s4⟩ := hS
      have b0 : Below w.heap.size w wr := hbw.trans (hb.mono (by omega))
      clear hD d0 d1 d2
      cases hv : validCh (a : Int) (m : Int) (chA f m a)
      · have HV := Lib.hid hv
        have hR : res = (0, 0, [], false) := by rw [HRES.out, outCh_no hv]
        have HR := Lib.hid hR
        clear hv hR
        go_wp2_with (go_at_call 72; refine (asChannel_no (a : Int) (m : Int) (i64_8 a2) (i64_8 m2) _ (chA f m a) _ (SlR.own s4) HF.out HV.out).mono ?_; rintro e w3 ⟨rfl, hb4⟩; have g0 := cell_step g0 hb4; have g1 := cell_step g1 hb4; have g2 := cell_step g2 hb4; have z0 := (hb4.frozen (p := ⟨w.heap.size, 0, none⟩) (show w.heap.size < wr.heap.size by omega)).trans z0; have z1 := (hb4.frozen (p := ⟨w.heap.size, 1, none⟩) (show w.heap.size < wr.heap.size by omega)).trans z1; have z2 := (hb4.frozen (p := ⟨w.heap.size, 2, none⟩) (show w.heap.size < wr.heap.size by omega)).trans z2; have hb5 := b0.trans (hb4.mono b0.size))
        refine bodyPost_ret (v := .tuple #[.agg #[.int .i64 0, .int .i64 0, .slice none 0 0], .bool false]) (by simp [results, Try.results49, go_sem, *]) rfl ?_
        rw [HR.out]
        exact RetSl.nul (f := fun v => .tuple #[.agg #[.int .i64 0, .int .i64 0, v], .bool false]) (((hb5.setCell (p := ⟨w.heap.size, 0, none⟩) (Nat.le_refl _) _).setCell (p := ⟨w.heap.size, 1, none⟩) (Nat.le_refl _) _).setCell (p := ⟨w.heap.size, 2, none⟩) (Nat.le_refl _) _)
      · have HV := Lib.hid hv
        have hR : res = ((a : Int), (m : Int), chA f m a, true) := by rw [HRES.out, outCh_yes hv]
        have HR := Lib.hid hR
        clear hv hR
        go_wp2_with (go_at_call 72; refine (asChannel_yes (a : Int) (m : Int) (i64_8 a2) (i64_8 m2) _ (chA f m a) _ (SlR.own s4) HF.out HV.out).mono ?_; rintro e w3 ⟨rfl, hb4⟩; have g0 := cell_step g0 hb4; have g1 := cell_step g1 hb4; have g2 := cell_step g2 hb4; have z0 := (hb4.frozen (p := ⟨w.heap.size, 0, none⟩) (show w.heap.size < wr.heap.size by omega)).trans z0; have z1 := (hb4.frozen (p := ⟨w.heap.size, 1, none⟩) (show w.heap.size < wr.heap.size by omega)).trans z1; have z2 := (hb4.frozen (p := ⟨w.heap.size, 2, none⟩) (show w.heap.size < wr.heap.size by omega)).trans z2; have hb5 := b0.trans (hb4.mono b0.size); have s5 := ownsRow_below s4 hb4)
        refine bodyPost_ret (v := .tuple #[.agg #[.int .i64 (a : Int), .int .i64 (m : Int), .slice ad (chA f m a).length cd], .bool true]) (by simp [results, Try.results49, go_sem, *]) rfl ?_
        rw [HR.out]
        dsimp only
        have o1 := ownsRow_setCell_below (a := ⟨w.heap.size, 0, none⟩) s5 (show w.heap.size < w.heap.size + 1 + 1 by omega) (.int .i64 (a : Int))
        have o2 := ownsRow_setCell_below (a := ⟨w.heap.size, 1, none⟩) o1 (show w.heap.size < w.heap.size + 1 + 1 by omega) (.int .i64 (m : Int))
        have o3 := ownsRow_setCell_below (a := ⟨w.heap.size, 2, none⟩) o2 (show w.heap.size < w.heap.size + 1 + 1 by omega) (.slice ad (chA f m a).length cd)
        exact RetSl.mk (f := fun v => .tuple #[.agg #[.int .i64 (a : Int), .int .i64 (m : Int), v], .bool true]) (ownsRow_base o3 (by omega)) (((hb5.setCell (p := ⟨w.heap.size, 0, none⟩) (Nat.le_refl _) _).setCell (p := ⟨w.heap.size, 1, none⟩) (Nat.le_refl _) _).setCell (p := ⟨w.heap.size, 2, none⟩) (Nat.le_refl _) _)

set_option maxHeartbeats 4000000 in
theorem madeFlip_any (p1 p2 : Value) (a m : Nat) (f : Nat → Nat → Nat) (w : World) (a1 : 1 ≤ a) (a2 : a ≤ 8) (m1 : 1 ≤ m) (m2 : m ≤ 8) (hf : ∀ i k, i < a → k < m → f i k < 4294967296)
    (hcl : ∀ (W : World) (i k : Nat), Below w.heap.size w W → i < a → k < m → Calls Try.prog 52 #[.int .i64 (i : Int), .int .i64 (k : Int), p1, p2] W fun e w' => e = .returned (.float .f32 (f i k)) ∧ Below W.heap.size W w') :
    Calls Try.prog 49 #[.int .i64 (a : Int), .int .i64 (m : Int), .func (.func 52) #[] #[p1, p2]] w (RetSl w 22 (outCh a m (chA f m a)).2.2.1.length ((outCh a m (chA f m a)).2.2.1.map (Value.float .f32)) (fun v => .tuple #[.agg #[.int .i64 (outCh a m (chA f m a)).1, .int .i64 (outCh a m (chA f m a)).2.1, v], .bool (outCh a m (chA f m a)).2.2.2])) := by
  have HCL := Lib.hid hcl
  have HF : Hid (∀ x ∈ chA f m a, x < 4294967296) := by
    show ∀ x ∈ _, _
    intro x hx
    obtain ⟨q, k, hq, hk, rfl⟩ := chA_mem hx
    exact hf q k hq hk
  obtain ⟨res, hres⟩ : ∃ res, res = outCh a m (chA f m a) := ⟨_, rfl⟩
  have HRES := Lib.hid hres
  rw [← hres]
  clear hcl hf hres
  go_enter Try.func49, Try.ntmps49
  go_wp2
  obtain ⟨W2, hW2⟩ : ∃ W2, W2 = (w.alloc (.cells #[.int .i64 0, .int .i64 0, .slice none 0 0] 25)).alloc (.cells #[.int .i64 (a : Int), .int .i64 (m : Int), .slice none 0 0] 25) := ⟨_, rfl⟩
  have hsz : W2.heap.size = w.heap.size + 2 := by rw [hW2]; simp
  have hbw : Below w.heap.size w W2 := by rw [hW2]; go_grown
  have d0 : World.cell? W2 ⟨w.heap.size, 0, none⟩ = some (.int .i64 0) := by rw [hW2]; go_cell
  have d1 : World.cell? W2 ⟨w.heap.size, 1, none⟩ = some (.int .i64 0) := by rw [hW2]; go_cell
  have d2 : World.cell? W2 ⟨w.heap.size, 2, none⟩ = some (.slice none 0 0) := by rw [hW2]; go_cell
  have hD : ∀ o, World.frozen? W2 ⟨w.heap.size, o, none⟩ = false := by intro o; rw [hW2, World.frozen?_alloc_past, World.frozen?_alloc_at] <;> simp
  have hS0 : StB W2 (w.heap.size + 1) a m none 0 (chA f m 0) := by
    refine ⟨?_, ?_, ?_, ?_, rfl, .inl ⟨rfl, rfl⟩⟩
    · rw [hW2]; go_cell
    · rw [hW2]; go_cell
    · show World.cell? W2 _ = some (.slice none 0 0)
      rw [hW2]; go_cell
    · rw [hW2, World.frozen?_alloc_at]; simp
  rw [← hW2]
  clear hW2
  go_loopw [15] (fun q wr => ∃ k : Nat, k ≤ a ∧ q = .int .i64 k ∧ (∃ ad cd, StB wr (w.heap.size + 1) a m ad cd (chA f m k)) ∧ Below (w.heap.size + 1) W2 wr) (fun q _ => a - (intOf q).toNat)
  case atStart => exact ⟨0, Nat.zero_le _, rfl, ⟨none, 0, hS0⟩, Below.refl _ _⟩
  case round =>
    clear hS0
    obtain ⟨k, hk, rfl, ⟨ad, cd, hS⟩, hb⟩ := hrel
    by_cases hlt : k < a
    · go_wp2
      obtain ⟨wo, hwo⟩ : ∃ wo : World, wo = wr := ⟨_, rfl⟩
      rw [← hwo] at hS hb ⊢
      clear hwo wr
      go_loopw [19] (fun q wr => ∃ r : Nat, r ≤ m ∧ q = .int .i64 r ∧ (∃ ad cd, StB wr (w.heap.size + 1) a m ad cd (chA f m k ++ chR f k r)) ∧ Below (w.heap.size + 1) W2 wr) (fun q _ => m - (intOf q).toNat)
      case atStart => exact ⟨0, Nat.zero_le _, rfl, ⟨ad, cd, by simpa [chR] using hS⟩, hb⟩
      case round =>
        clear hS hb
        obtain ⟨r, hr, rfl, ⟨ad, cd, hS⟩, hb⟩ := hrel
        by_cases hrlt : r < m
        · have HCS := Lib.hid (chR_succ f k r)
          have hcc := HCL.out wr.drew k r ((hbw.trans (hb.mono (by omega))).drew) hlt hrlt
          generalize f k r = y at *
          obtain ⟨zs, hzs⟩ : ∃ zs, zs = chA f m k ++ chR f k r := ⟨_, rfl⟩
          rw [← hzs] at hS
          have HZ := Lib.hid hzs
          have hzl : zs.length ≤ 4096 := by rw [HZ.out, List.length_append, chA_length, chR_length]; have : k * m ≤ 8 * 8 := Nat.mul_le_mul (by omega) (by omega); omega
          clear hzs
          have hlS := hS.lt
          have f2 := hS.2.2.1
          have HS := Lib.hid hS
          have HCC := Lib.hid hcc
          clear hS hcc
          go_wp2
          have Y := fun (ops : Array Oper) (o : Oper) (A : Act) (K : Act → World → Prop) (Q : Exit → Act → World → Prop) (E : Prop) => step_callR (P := Try.prog) (ops := ops) (o := o) (A := A) (w := wr.drew) (K := K) (Q := Q) (E := E) (fun args w => run_enter Try.func52 (by kernel_rfl) (by kernel_rfl) args w) [.int .i64 (k : Int), .int .i64 (r : Int)] [p1, p2] _ _ HCC.out
          go_region_law (first
            | ((with_reducible refine X _ _ _ _ _ _ ?_ (.tmp 23) (.tmp 28) ?_ ?_ ?_ ?_); rfl; rfl; rfl; rfl; intro g2 c2 w2 ho2 hg2 hc2 hf2)
            | ((with_reducible refine Y _ _ _ _ _ _ ?_ (.tmp 24) [.tmp 25, .tmp 26] #[2, 2] ?_ ?_ ?_ ?_); rfl; rfl; rfl; rfl; intro w1 hb1; have hS1 := HS.out.below ((Fr.refl _).drew.step hb1); have f2b := hS1.2.2.1; have hS2 : StB (w1.alloc (.cells #[.float .f32 y] 22)) (w.heap.size + 1) a m ad cd zs := hS1.below (by go_grown); have f2c := hS2.2.2.1; have hry : World.cell? (w1.alloc (.cells #[.float .f32 y] 22)) ⟨w1.heap.size, 0, none⟩ = some (.float .f32 y) := (by simp); have X := fun (ops : Array Oper) (o : Oper) (A : Act) (K : Act → World → Prop) (Q : Exit → Act → World → Prop) (E : Prop) h1 s x h2 h3 h4 h5 => StB.law (ops := ops) (o := o) (A := A) (K := K) (Q := Q) (E := E) hS2 hzl y w1.heap.size hry (w1.heap.size + 1) (by simp) h1 s x h2 h3 h4 h5))
          clear Y
          all_goals
            have hbd : Below (w.heap.size + 1) W2 (w1.alloc (.cells #[.float .f32 y] 22)) := ((hb.drew).trans (hb1.mono (Nat.le_of_lt hlS))).alloc (Nat.le_trans (Nat.le_of_lt hlS) hb1.size) _
            go_wp2
            exact ⟨⟨r + 1, by omega, by go_num, ⟨some ⟨g2, 0, none⟩, c2, by rw [HCS.out, ← List.append_assoc, ← HZ.out]; exact StB.push hS2 hg2 ho2⟩, push_below hbd hS2 (by omega) hg2⟩, by simp [intOf]; omega⟩
        · obtain rfl : m = r := by omega
          go_wp2
          go_roundw
          case rel => exact ⟨k + 1, by omega, by go_num, ⟨ad, cd, by rw [chA_succ]; exact hS⟩, hb⟩
          case measure => simp [intOf]; omega
    · obtain rfl : a = k := by omega
      have g0 := (hb.cell (p := ⟨w.heap.size, 0, none⟩) (show w.heap.size < w.heap.size + 1 by omega)).trans d0
      have g1 := (hb.cell (p := ⟨w.heap.size, 1, none⟩) (show w.heap.size < w.heap.size + 1 by omega)).trans d1
      have g2 := (hb.cell (p := ⟨w.heap.size, 2, none⟩) (show w.heap.size < w.heap.size + 1 by omega)).trans d2
      have z0 := (hb.frozen (p := ⟨w.heap.size, 0, none⟩) (show w.heap.size < w.heap.size + 1 by omega)).trans (hD 0)
      have z1 := (hb.frozen (p := ⟨w.heap.size, 1, none⟩) (show w.heap.size < w.heap.size + 1 by omega)).trans (hD 1)
      have z2 := (hb.frozen (p := ⟨w.heap.size, 2, none⟩) (show w.heap.size < w.heap.size + 1 by omega)).trans (hD 2)
      have hlS := hS.lt
      obtain ⟨s0, s1, s2, s3, s4⟩ := hS
      have b0 : Below w.heap.size w wr := hbw.trans (hb.mono (by omega))
      clear hD d0 d1 d2
      cases hv : validCh (a : Int) (m : Int) (chA f m a)
      · have HV := Lib.hid hv
        have hR : res = (0, 0, [], false) := by rw [HRES.out, outCh_no hv]
        have HR := Lib.hid hR
        clear hv hR
        go_wp2_with (go_at_call 72; refine (asChannel_no (a : Int) (m : Int) (i64_8 a2) (i64_8 m2) _ (chA f m a) _ (SlR.own s4) HF.out HV.out).mono ?_; rintro e w3 ⟨rfl, hb4⟩; have g0 := cell_step g0 hb4; have g1 := cell_step g1 hb4; have g2 := cell_step g2 hb4; have z0 := (hb4.frozen (p := ⟨w.heap.size, 0, none⟩) (show w.heap.size < wr.heap.size by omega)).trans z0; have z1 := (hb4.frozen (p := ⟨w.heap.size, 1, none⟩) (show w.heap.size < wr.heap.size by omega)).trans z1; have z2 := (hb4.frozen (p := ⟨w.heap.size, 2, none⟩) (show w.heap.size < wr.heap.size by omega)).trans z2; have hb5 := b0.trans (hb4.mono b0.size))
        refine bodyPost_ret (v := .tuple #[.agg #[.int .i64 0, .int .i64 0, .slice none 0 0], .bool false]) (by simp [results, Try.results49, go_sem, *]) rfl ?_
        rw [HR.out]
        exact RetSl.nul (f := fun v => .tuple #[.agg #[.int .i64 0, .int .i64 0, v], .bool false]) (((hb5.setCell (p := ⟨w.heap.size, 0, none⟩) (Nat.le_refl _) _).setCell (p := ⟨w.heap.size, 1, none⟩) (Nat.le_refl _) _).setCell (p := ⟨w.heap.size, 2, none⟩) (Nat.le_refl _) _)
      · have HV := Lib.hid hv
        have hR : res = ((a : Int), (m : Int), chA f m a, true) := by rw [HRES.out, outCh_yes hv]
        have HR := Lib.hid hR
        clear hv hR
        go_wp2_with (go_at_call 72; refine (asChannel_yes (a : Int) (m : Int) (i64_8 a2) (i64_8 m2) _ (chA f m a) _ (SlR.own s4) HF.out HV.out).mono ?_; rintro e w3 ⟨rfl, hb4⟩; have g0 := cell_step g0 hb4; have g1 := cell_step g1 hb4; have g2 := cell_step g2 hb4; have z0 := (hb4.frozen (p := ⟨w.heap.size, 0, none⟩) (show w.heap.size < wr.heap.size by omega)).trans z0; have z1 := (hb4.frozen (p := ⟨w.heap.size, 1, none⟩) (show w.heap.size < wr.heap.size by omega)).trans z1; have z2 := (hb4.frozen (p := ⟨w.heap.size, 2, none⟩) (show w.heap.size < wr.heap.size by omega)).trans z2; have hb5 := b0.trans (hb4.mono b0.size); have s5 := ownsRow_below s4 hb4)
        refine bodyPost_ret (v := .tuple #[.agg #[.int .i64 (a : Int), .int .i64 (m : Int), .slice ad (chA f m a).length cd], .bool true]) (by simp [results, Try.results49, go_sem, *]) rfl ?_
        rw [HR.out]
        dsimp only
        have o1 := ownsRow_setCell_below (a := ⟨w.heap.size, 0, none⟩) s5 (show w.heap.size < w.heap.size + 1 + 1 by omega) (.int .i64 (a : Int))
        have o2 := ownsRow_setCell_below (a := ⟨w.heap.size, 1, none⟩) o1 (show w.heap.size < w.heap.size + 1 + 1 by omega) (.int .i64 (m : Int))
        have o3 := ownsRow_setCell_below (a := ⟨w.heap.size, 2, none⟩) o2 (show w.heap.size < w.heap.size + 1 + 1 by omega) (.slice ad (chA f m a).length cd)
        exact RetSl.mk (f := fun v => .tuple #[.agg #[.int .i64 (a : Int), .int .i64 (m : Int), v], .bool true]) (ownsRow_base o3 (by omega)) (((hb5.setCell (p := ⟨w.heap.size, 0, none⟩) (Nat.le_refl _) _).setCell (p := ⟨w.heap.size, 1, none⟩) (Nat.le_refl _) _).setCell (p := ⟨w.heap.size, 2, none⟩) (Nat.le_refl _) _)

set_option maxHeartbeats 4000000 in
theorem madeSide_any (p1 p2 : Value) (a m : Nat) (f : Nat → Nat → Nat) (w : World) (a1 : 1 ≤ a) (a2 : a ≤ 8) (m1 : 1 ≤ m) (m2 : m ≤ 8) (hf : ∀ i k, i < a → k < m → f i k < 4294967296)
    (hcl : ∀ (W : World) (i k : Nat), Below w.heap.size w W → i < a → k < m → Calls Try.prog 56 #[.int .i64 (i : Int), .int .i64 (k : Int), p1, p2] W fun e w' => e = .returned (.float .f32 (f i k)) ∧ Below W.heap.size W w') :
    Calls Try.prog 49 #[.int .i64 (a : Int), .int .i64 (m : Int), .func (.func 56) #[] #[p1, p2]] w (RetSl w 22 (outCh a m (chA f m a)).2.2.1.length ((outCh a m (chA f m a)).2.2.1.map (Value.float .f32)) (fun v => .tuple #[.agg #[.int .i64 (outCh a m (chA f m a)).1, .int .i64 (outCh a m (chA f m a)).2.1, v], .bool (outCh a m (chA f m a)).2.2.2])) := by
  have HCL := Lib.hid hcl
  have HF : Hid (∀ x ∈ chA f m a, x < 4294967296) := by
    show ∀ x ∈ _, _
    intro x hx
    obtain ⟨q, k, hq, hk, rfl⟩ := chA_mem hx
    exact hf q k hq hk
  obtain ⟨res, hres⟩ : ∃ res, res = outCh a m (chA f m a) := ⟨_, rfl⟩
  have HRES := Lib.hid hres
  rw [← hres]
  clear hcl hf hres
  go_enter Try.func49, Try.ntmps49
  go_wp2
  obtain ⟨W2, hW2⟩ : ∃ W2, W2 = (w.alloc (.cells #[.int .i64 0, .int .i64 0, .slice none 0 0] 25)).alloc (.cells #[.int .i64 (a : Int), .int .i64 (m : Int), .slice none 0 0] 25) := ⟨_, rfl⟩
  have hsz : W2.heap.size = w.heap.size + 2 := by rw [hW2]; simp
  have hbw : Below w.heap.size w W2 := by rw [hW2]; go_grown
  have d0 : World.cell? W2 ⟨w.heap.size, 0, none⟩ = some (.int .i64 0) := by rw [hW2]; go_cell
  have d1 : World.cell? W2 ⟨w.heap.size, 1, none⟩ = some (.int .i64 0) := by rw [hW2]; go_cell
  have d2 : World.cell? W2 ⟨w.heap.size, 2, none⟩ = some (.slice none 0 0) := by rw [hW2]; go_cell
  have hD : ∀ o, World.frozen? W2 ⟨w.heap.size, o, none⟩ = false := by intro o; rw [hW2, World.frozen?_alloc_past, World.frozen?_alloc_at] <;> simp
  have hS0 : StB W2 (w.heap.size + 1) a m none 0 (chA f m 0) := by
    refine ⟨?_, ?_, ?_, ?_, rfl, .inl ⟨rfl, rfl⟩⟩
    · rw [hW2]; go_cell
    · rw [hW2]; go_cell
    · show World.cell? W2 _ = some (.slice none 0 0)
      rw [hW2]; go_cell
    · rw [hW2, World.frozen?_alloc_at]; simp
  rw [← hW2]
  clear hW2
  go_loopw [15] (fun q wr => ∃ k : Nat, k ≤ a ∧ q = .int .i64 k ∧ (∃ ad cd, StB wr (w.heap.size + 1) a m ad cd (chA f m k)) ∧ Below (w.heap.size + 1) W2 wr) (fun q _ => a - (intOf q).toNat)
  case atStart => exact ⟨0, Nat.zero_le _, rfl, ⟨none, 0, hS0⟩, Below.refl _ _⟩
  case round =>
    clear hS0
    obtain ⟨k, hk, rfl, ⟨ad, cd, hS⟩, hb⟩ := hrel
    by_cases hlt : k < a
    · go_wp2
      obtain ⟨wo, hwo⟩ : ∃ wo : World, wo = wr := ⟨_, rfl⟩
      rw [← hwo] at hS hb ⊢
      clear hwo wr
      go_loopw [19] (fun q wr => ∃ r : Nat, r ≤ m ∧ q = .int .i64 r ∧ (∃ ad cd, StB wr (w.heap.size + 1) a m ad cd (chA f m k ++ chR f k r)) ∧ Below (w.heap.size + 1) W2 wr) (fun q _ => m - (intOf q).toNat)
      case atStart => exact ⟨0, Nat.zero_le _, rfl, ⟨ad, cd, by simpa [chR] using hS⟩, hb⟩
      case round =>
        clear hS hb
        obtain ⟨r, hr, rfl, ⟨ad, cd, hS⟩, hb⟩ := hrel
        by_cases hrlt : r < m
        · have HCS := Lib.hid (chR_succ f k r)
          have hcc := HCL.out wr.drew k r ((hbw.trans (hb.mono (by omega))).drew) hlt hrlt
          generalize f k r = y at *
          obtain ⟨zs, hzs⟩ : ∃ zs, zs = chA f m k ++ chR f k r := ⟨_, rfl⟩
          rw [← hzs] at hS
          have HZ := Lib.hid hzs
          have hzl : zs.length ≤ 4096 := by rw [HZ.out, List.length_append, chA_length, chR_length]; have : k * m ≤ 8 * 8 := Nat.mul_le_mul (by omega) (by omega); omega
          clear hzs
          have hlS := hS.lt
          have f2 := hS.2.2.1
          have HS := Lib.hid hS
          have HCC := Lib.hid hcc
          clear hS hcc
          go_wp2
          have Y := fun (ops : Array Oper) (o : Oper) (A : Act) (K : Act → World → Prop) (Q : Exit → Act → World → Prop) (E : Prop) => step_callR (P := Try.prog) (ops := ops) (o := o) (A := A) (w := wr.drew) (K := K) (Q := Q) (E := E) (fun args w => run_enter Try.func56 (by kernel_rfl) (by kernel_rfl) args w) [.int .i64 (k : Int), .int .i64 (r : Int)] [p1, p2] _ _ HCC.out
          go_region_law (first
            | ((with_reducible refine X _ _ _ _ _ _ ?_ (.tmp 23) (.tmp 28) ?_ ?_ ?_ ?_); rfl; rfl; rfl; rfl; intro g2 c2 w2 ho2 hg2 hc2 hf2)
            | ((with_reducible refine Y _ _ _ _ _ _ ?_ (.tmp 24) [.tmp 25, .tmp 26] #[2, 2] ?_ ?_ ?_ ?_); rfl; rfl; rfl; rfl; intro w1 hb1; have hS1 := HS.out.below ((Fr.refl _).drew.step hb1); have f2b := hS1.2.2.1; have hS2 : StB (w1.alloc (.cells #[.float .f32 y] 22)) (w.heap.size + 1) a m ad cd zs := hS1.below (by go_grown); have f2c := hS2.2.2.1; have hry : World.cell? (w1.alloc (.cells #[.float .f32 y] 22)) ⟨w1.heap.size, 0, none⟩ = some (.float .f32 y) := (by simp); have X := fun (ops : Array Oper) (o : Oper) (A : Act) (K : Act → World → Prop) (Q : Exit → Act → World → Prop) (E : Prop) h1 s x h2 h3 h4 h5 => StB.law (ops := ops) (o := o) (A := A) (K := K) (Q := Q) (E := E) hS2 hzl y w1.heap.size hry (w1.heap.size + 1) (by simp) h1 s x h2 h3 h4 h5))
          clear Y
          all_goals
            have hbd : Below (w.heap.size + 1) W2 (w1.alloc (.cells #[.float .f32 y] 22)) := ((hb.drew).trans (hb1.mono (Nat.le_of_lt hlS))).alloc (Nat.le_trans (Nat.le_of_lt hlS) hb1.size) _
            go_wp2
            exact ⟨⟨r + 1, by omega, by go_num, ⟨some ⟨g2, 0, none⟩, c2, by rw [HCS.out, ← List.append_assoc, ← HZ.out]; exact StB.push hS2 hg2 ho2⟩, push_below hbd hS2 (by omega) hg2⟩, by simp [intOf]; omega⟩
        · obtain rfl : m = r := by omega
          go_wp2
          go_roundw
          case rel => exact ⟨k + 1, by omega, by go_num, ⟨ad, cd, by rw [chA_succ]; exact hS⟩, hb⟩
          case measure => simp [intOf]; omega
    · obtain rfl : a = k := by omega
      have g0 := (hb.cell (p := ⟨w.heap.size, 0, none⟩) (show w.heap.size < w.heap.size + 1 by omega)).trans d0
      have g1 := (hb.cell (p := ⟨w.heap.size, 1, none⟩) (show w.heap.size < w.heap.size + 1 by omega)).trans d1
      have g2 := (hb.cell (p := ⟨w.heap.size, 2, none⟩) (show w.heap.size < w.heap.size + 1 by omega)).trans d2
      have z0 := (hb.frozen (p := ⟨w.heap.size, 0, none⟩) (show w.heap.size < w.heap.size + 1 by omega)).trans (hD 0)
      have z1 := (hb.frozen (p := ⟨w.heap.size, 1, none⟩) (show w.heap.size < w.heap.size + 1 by omega)).trans (hD 1)
      have z2 := (hb.frozen (p := ⟨w.heap.size, 2, none⟩) (show w.heap.size < w.heap.size + 1 by omega)).trans (hD 2)
      have hlS := hS.lt
      obtain ⟨s0, s1, s2, s3, s4⟩ := hS
      have b0 : Below w.heap.size w wr := hbw.trans (hb.mono (by omega))
      clear hD d0 d1 d2
      cases hv : validCh (a : Int) (m : Int) (chA f m a)
      · have HV := Lib.hid hv
        have hR : res = (0, 0, [], false) := by rw [HRES.out, outCh_no hv]
        have HR := Lib.hid hR
        clear hv hR
        go_wp2_with (go_at_call 72; refine (asChannel_no (a : Int) (m : Int) (i64_8 a2) (i64_8 m2) _ (chA f m a) _ (SlR.own s4) HF.out HV.out).mono ?_; rintro e w3 ⟨rfl, hb4⟩; have g0 := cell_step g0 hb4; have g1 := cell_step g1 hb4; have g2 := cell_step g2 hb4; have z0 := (hb4.frozen (p := ⟨w.heap.size, 0, none⟩) (show w.heap.size < wr.heap.size by omega)).trans z0; have z1 := (hb4.frozen (p := ⟨w.heap.size, 1, none⟩) (show w.heap.size < wr.heap.size by omega)).trans z1; have z2 := (hb4.frozen (p := ⟨w.heap.size, 2, none⟩) (show w.heap.size < wr.heap.size by omega)).trans z2; have hb5 := b0.trans (hb4.mono b0.size))
        refine bodyPost_ret (v := .tuple #[.agg #[.int .i64 0, .int .i64 0, .slice none 0 0], .bool false]) (by simp [results, Try.results49, go_sem, *]) rfl ?_
        rw [HR.out]
        exact RetSl.nul (f := fun v => .tuple #[.agg #[.int .i64 0, .int .i64 0, v], .bool false]) (((hb5.setCell (p := ⟨w.heap.size, 0, none⟩) (Nat.le_refl _) _).setCell (p := ⟨w.heap.size, 1, none⟩) (Nat.le_refl _) _).setCell (p := ⟨w.heap.size, 2, none⟩) (Nat.le_refl _) _)
      · have HV := Lib.hid hv
        have hR : res = ((a : Int), (m : Int), chA f m a, true) := by rw [HRES.out, outCh_yes hv]
        have HR := Lib.hid hR
        clear hv hR
        go_wp2_with (go_at_call 72; refine (asChannel_yes (a : Int) (m : Int) (i64_8 a2) (i64_8 m2) _ (chA f m a) _ (SlR.own s4) HF.out HV.out).mono ?_; rintro e w3 ⟨rfl, hb4⟩; have g0 := cell_step g0 hb4; have g1 := cell_step g1 hb4; have g2 := cell_step g2 hb4; have z0 := (hb4.frozen (p := ⟨w.heap.size, 0, none⟩) (show w.heap.size < wr.heap.size by omega)).trans z0; have z1 := (hb4.frozen (p := ⟨w.heap.size, 1, none⟩) (show w.heap.size < wr.heap.size by omega)).trans z1; have z2 := (hb4.frozen (p := ⟨w.heap.size, 2, none⟩) (show w.heap.size < wr.heap.size by omega)).trans z2; have hb5 := b0.trans (hb4.mono b0.size); have s5 := ownsRow_below s4 hb4)
        refine bodyPost_ret (v := .tuple #[.agg #[.int .i64 (a : Int), .int .i64 (m : Int), .slice ad (chA f m a).length cd], .bool true]) (by simp [results, Try.results49, go_sem, *]) rfl ?_
        rw [HR.out]
        dsimp only
        have o1 := ownsRow_setCell_below (a := ⟨w.heap.size, 0, none⟩) s5 (show w.heap.size < w.heap.size + 1 + 1 by omega) (.int .i64 (a : Int))
        have o2 := ownsRow_setCell_below (a := ⟨w.heap.size, 1, none⟩) o1 (show w.heap.size < w.heap.size + 1 + 1 by omega) (.int .i64 (m : Int))
        have o3 := ownsRow_setCell_below (a := ⟨w.heap.size, 2, none⟩) o2 (show w.heap.size < w.heap.size + 1 + 1 by omega) (.slice ad (chA f m a).length cd)
        exact RetSl.mk (f := fun v => .tuple #[.agg #[.int .i64 (a : Int), .int .i64 (m : Int), v], .bool true]) (ownsRow_base o3 (by omega)) (((hb5.setCell (p := ⟨w.heap.size, 0, none⟩) (Nat.le_refl _) _).setCell (p := ⟨w.heap.size, 1, none⟩) (Nat.le_refl _) _).setCell (p := ⟨w.heap.size, 2, none⟩) (Nat.le_refl _) _)

end Go.Proofs.Ytlahmdnlamifnaa
