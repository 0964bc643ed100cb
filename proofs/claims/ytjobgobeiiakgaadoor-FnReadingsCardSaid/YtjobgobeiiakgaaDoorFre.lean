/- The law FnReadings: its walk. -/
import Derived.Test.YtjobgobeiiakgaaDoorRdP
import Derived.Test.YtjobgobeiiakgaaDoorUqj
import Derived.Test.YtjobgobeiiakgaaDoorSrc
import Derived.Deep.AppendLies
import Derived.Deep.RegionLaw
import Derived.Deep.RegionHeld3
import Derived.BigQuiet
import Derived.StillTailTactics
namespace Go.Proofs.YtjobgobeiiakgaaDoor
set_option linter.unusedSimpArgs false
set_option linter.unusedVariables false
open Go.RowKit
open Go.Maps (Keyed Tidy IsMap has size)
theorem run_cut_two (l : List UInt8) (p n : Nat) (h : p + n ≤ l.length) (W : World) :
    (Instr.slice 9 (.string ⟨l.toArray⟩) (some (.int .i64 (p : Int))) (some (.int .i64 ((p : Int) + (n : Int)))) none).run Tryd.prog W = .ok (.string ⟨((l.drop p).take n).toArray⟩) W := by
  have h1 := run_slice_string (P := Tryd.prog) W 9 ⟨l.toArray⟩ .i64 .i64 (p : Int) ((p : Int) + (n : Int)) Tryd.underlying9 (by omega) (by omega) (by show (p : Int) + (n : Int) ≤ ((l.toArray.size : Nat) : Int); simp; omega)
  rw [h1, ByteArray.extract_mk, show ((p : Int) + (n : Int)).toNat = p + n by omega, show ((p : Int)).toNat = p by omega]
  simp [List.take_drop, Nat.add_comm]
theorem own_drewR {w : World} {b : Nat} {e : TypeId} {s : Nat} {v : Value} {n : Nat} {xs : List Value} (h : w.ownsRow b e s v n xs) (q : Nat) : (w.drewN q).ownsRow b e s v n xs := ownsRow_below h ((Qu.refl _).drewN q).keep
/-- A number as a value. -/
def nvl (x : Nat) : Value := .int .i64 (x : Int)
theorem info_intr : (Tryd.prog.info? 3).map (fun i => (i.zero, i.size, i.bytes)) = some (some (.int .i64 0), 1, 8) := by kernel_rfl
theorem run_enterX {P : Program} {f : FuncId} {fn : Func} (hf : P.funcs[f]? = some fn) (hname : (fn.name == "runtime.NumGoroutine") = false) (hb : fn.body.isSome = true) (args : Array Value) (w : World) : (callFunc f args).run P w = .ok (.enter f args) w := by
  obtain ⟨c, hc⟩ := Option.isSome_iff_exists.1 hb
  have h1 : fn.name ≠ "runtime.NumGoroutine" := by simpa using hname
  simp [callFunc, hf, h1, hc, mark, Sem.run]
theorem cell_new1 (W : World) (x : Value) (T : TypeId) {b : Nat} (h : b = W.heap.size) : (W.alloc (.cells #[x] T)).cell? ⟨b, 0, none⟩ = some x := by
  subst h; simp
/-- What a row holds, for an append. -/
theorem own_news {W : World} {B : Nat} {T : TypeId} {g n c : Nat} {xs : List Value} (h : W.ownsRow B T 1 (.slice (some ⟨g, 0, none⟩) n c) n xs) : ∀ j u, xs[j]? = some u → W.cell? ((⟨g, 0, none⟩ : Addr).add j) = some u := fun j u hu => by
  have hl : xs.length = n := by have := h.1; omega
  rw [add_atS, Nat.zero_add, h.cellAt j (by have := (List.getElem?_eq_some_iff.1 hu).1; omega)]
  exact hu
theorem one_news {W : World} {b : Nat} {x : Value} (h : W.cell? ⟨b, 0, none⟩ = some x) : ∀ j u, [x][j]? = some u → W.cell? ((⟨b, 0, none⟩ : Addr).add j) = some u := fun j u hu => by
  cases j with
  | zero => rw [add_atS]; simp at hu; rw [← hu]; exact h
  | succ j => simp at hu
/-- A call whose result is not known, in a region that draws. -/
theorem step_callX {P : Program} {ops : Array Oper} {o : Oper} {A : Act} {w : World} {K : Act → World → Prop} {Q : Exit → Act → World → Prop} {E : Prop} {f : FuncId} (hen : ∀ args w, (callFunc f args).run P w = .ok (.enter f args) w) (vals cap : List Value) (R : Value → World → Prop) (hc : Calls P f (vals ++ cap).toArray w fun e w' => ∃ v, e = .returned v ∧ R v w')
    (hgd : o.guard = none) (callee : Operand) (argOps : List Operand) (tys : Array TypeId)
    (hop : o.op = .call { callee := .value callee, args := argOps.toArray, argTypes := tys }) (hcal : A.eval callee = .func (.func f) #[] cap.toArray) (hargs : argOps.map A.eval = vals) (hK : ∀ v W', R v W' → K (A.put o.dst v) W') :
    if Region.wanted o (yielded ops A.tmps) = true then Oper.wp P o A w K Q else E := by
  have hw : Region.wanted o (yielded ops A.tmps) = true := by simp [Region.wanted, hgd]
  rw [if_pos hw]
  have hrun : (execOp A.eval o).run P w = .ok (.enter f (vals ++ cap).toArray) w := by
    simp [execOp, hop, resolve, Deferred.ofValue, hcal, invoke, hargs, hen, Result.andThen]
  unfold Oper.wp
  rw [hrun, Oper.upon_enter]
  exact hc.mono (by rintro e w' ⟨v, rfl, h⟩; exact hK _ _ h)

theorem tworeadings_w3 (W : World) : Calls Tryd.prog 10 #[.slice (some ⟨W.heap.size, 0, none⟩) 3 3] (W.alloc (.cells #[.string ⟨#[48]⟩, .string ⟨#[48, 49]⟩, .string ⟨#[49, 48]⟩] 9)) fun e w' => e = .returned (.tuple #[.string ⟨#[48, 49, 48]⟩, .bool true]) ∧ Below W.heap.size W w' := by
  have hv : SlR (W.alloc (.cells #[.string ⟨#[48]⟩, .string ⟨#[48, 49]⟩, .string ⟨#[49, 48]⟩] 9)) (.slice (some ⟨W.heap.size, 0, none⟩) 3 3) (w3.map Value.string) := by
    refine ⟨_, _, rfl, by show 3 ≤ 3; omega, by unfold maxLen; omega, fun j u hu => ⟨W.heap.size, 0, rfl, ?_⟩⟩
    have hj : j < 3 := (List.getElem?_eq_some_iff.1 hu).1
    match j, hj with
    | 0, _ => cases hu; simp
    | 1, _ => cases hu; simp
    | 2, _ => cases hu; simp
  have := impl_TwoReadings _ _ w3 hv (by decide) (by decide)
  rw [w3_two] at this
  refine this.mono ?_
  rintro e w' ⟨rfl, hb⟩
  exact ⟨rfl, Below.trans (by go_grown) (hb.mono (by simp))⟩

set_option maxRecDepth 10000 in
set_option maxHeartbeats 8000000 in
theorem fre_loop (w : World) (a1 a2 : Option Addr) (c1 c2 : Nat) (code more : List UInt8) (nc nm : Nat) (hnc : code.length = nc) (hnm : more.length = nm) (hc : nc ≤ 48) (hm : nm ≤ 48) (s1 : SlR w (.slice a1 nc c1) (byv code)) (s2 : SlR w (.slice a2 nm c2) (byv more)) :
    Calls Tryd.prog 3 #[.slice a1 nc c1, .slice a2 nm c2] w fun e w' => e = .returned (.bool true) ∧ Below w.heap.size w w' := by
  have HL := Lib.hid (fun W (hW : Below w.heap.size w W) => r8Long_any _ _ code more W (s1.below hW) (s2.below hW))
  rw [hnc, hnm, show (decide (48 < nc) || decide (48 < nm)) = false by simp; omega] at HL
  have HAT : Hid (∀ (k n : Nat) (W : World), Below w.heap.size w W → k ≤ 1000 → n ≤ 1000 → Calls Tryd.prog 6 #[.slice a2 nm c2, .int .i64 (k : Int), .int .i64 (n : Int)] W fun e w' => e = .returned (.int .i64 ((at8 more k n : Nat) : Int)) ∧ W = w') := Lib.hid fun k n W hW h1 h2 => r8At_any _ more k n W (by omega) (by omega) h2 (s2.below hW)
  have HBI : Hid (∀ (k n : Nat) (W : World), Below w.heap.size w W → k ≤ nc → n ≤ 1000 → Calls Tryd.prog 7 #[.slice (if c1 = k then a1 else Option.map (fun x => x.add k) a1) (nc - k) (c1 - k), .int .i64 (n : Int)] W fun e w' => (∃ t : List UInt8, t.length = n ∧ (∀ ch ∈ t, ch = 48 ∨ ch = 49) ∧ e = .returned (.string ⟨t.toArray⟩)) ∧ Below W.heap.size W w') := Lib.hid fun k n W hW h1 h2 => by
    have e2 := (s1.below hW).cutE k h1
    have e3 : (byv code).drop k = byv (code.drop k) := by simp [byv, List.map_drop]
    rw [e3] at e2
    exact R8Bits_any W _ _ n (by simp; omega) h2 e2
  have hA0 := at8_lt more 40 4 (by omega)
  obtain ⟨n0, hn0⟩ : ∃ n0, n0 = 1 + at8 more 40 4 := ⟨_, rfl⟩
  have hn1 : 1 ≤ n0 ∧ n0 ≤ 4 := by omega
  have hn0' : IntKind.i64.wrap (1 + ((at8 more 40 4 : Nat) : Int)) = (n0 : Int) := by rw [hn0, Int.natCast_add]; exact IntWalk.i64_in _ (by omega)
  have HA40 := Lib.hid (fun W hW => HAT.out 40 4 W hW (by omega) (by omega))
  clear s1 s2 hnc hnm
  generalize at8 more 40 4 = x0 at *
  obtain ⟨i0, hi0, hz00, hz01, hz02⟩ := info_parts info_strU
  have hown0 : (w.alloc (.cells #[] 9)).ownsRow w.heap.size 9 1 (.slice (some ⟨w.heap.size, 0, none⟩) 0 0) 0 [] := World.ownsRow_made w #[] 0 (Nat.le_refl _) (Nat.zero_le _) rfl
  have hb0 : Below w.heap.size w (w.alloc (.cells #[] 9)) := by go_grown
  go_enter Tryd.func3, Tryd.ntmps3
  go_wp2_with (first | (go_at_call 5; refine (HL.out _ (Below.refl _ _)).mono ?_; rintro e w' ⟨rfl, rfl⟩) | (go_at_call 6; refine (HA40.out _ hb0).mono ?_; rintro e w' ⟨rfl, rfl⟩))
  go_loopw [5, 6] (fun v q wr => ∃ (k : Nat) (ws : List ByteArray), q = .int .i64 (k : Int) ∧ ws.length + k = n0 ∧ wr.ownsRow w.heap.size 9 1 v ws.length (ws.map Value.string) ∧ Hid (W14 ws) ∧ Below w.heap.size w wr) (fun _ q _ => (intOf q).toNat)
  case atStart => exact ⟨n0, [], by congr 1; omega, by simp, hown0, Lib.hid (fun x hx => by cases hx), hb0⟩
  case round =>
    clear hown0 hb0 hn0' hn0 hA0
    obtain ⟨k, ws, rfl, hk, hown, hws, hb⟩ := hrel
    have hbs := hb.size
    by_cases h0 : 0 < k
    · obtain ⟨mn, hmn⟩ : ∃ mn, mn = min (k * 3) nc := ⟨_, rfl⟩
      have hmn2 : mn ≤ nc := by omega
      have e1 : min ((k : Int) * 3) (nc : Int) = (mn : Int) := by omega
      clear hmn
      go_upto_region 8 with (fail)
      have hbD : Below w.heap.size w wr.drew := Below.drew hb
      have hx1 := at8_lt more k 4 (by omega)
      have HA := Lib.hid (HAT.out k 4 wr.drew hbD (by omega) (by omega))
      obtain ⟨x1, hx1e⟩ : ∃ x1, x1 = at8 more k 4 := ⟨_, rfl⟩
      rw [← hx1e] at HA hx1
      have hbits := HBI.out mn (1 + x1) wr.drew hbD hmn2 (by omega)
      have hadd : IntKind.i64.wrap (1 + (x1 : Int)) = ((1 + x1 : Nat) : Int) := by rw [Int.natCast_add]; exact IntWalk.i64_in _ (by omega)
      rw [← hadd] at hbits
      clear hx1e hadd
      have YA := fun (ops : Array Oper) (o : Oper) (A : Act) (K : Act → World → Prop) (Q : Exit → Act → World → Prop) (E : Prop) => step_callX (P := Tryd.prog) (ops := ops) (o := o) (A := A) (w := wr.drew) (K := K) (Q := Q) (E := E) (fun args w => run_enterX Tryd.func6 (by kernel_rfl) (by kernel_rfl) args w) [.slice a2 nm c2, .int .i64 (k : Int), .int .i64 4] [] (fun v W' => v = .int .i64 (x1 : Int) ∧ W' = wr.drew) (HA.out.mono (fun e w' ⟨h1, h2⟩ => ⟨_, h1, rfl, h2.symm⟩))
      have YB := fun (ops : Array Oper) (o : Oper) (A : Act) (K : Act → World → Prop) (Q : Exit → Act → World → Prop) (E : Prop) => step_callX (P := Tryd.prog) (ops := ops) (o := o) (A := A) (w := wr.drew) (K := K) (Q := Q) (E := E) (fun args w => run_enterX Tryd.func7 (by kernel_rfl) (by kernel_rfl) args w) [.slice (if c1 = mn then a1 else Option.map (fun x => x.add mn) a1) (nc - mn) (c1 - mn), .int .i64 (IntKind.i64.wrap (1 + (x1 : Int)))] [] (fun v W' => (∃ t : List UInt8, t.length = 1 + x1 ∧ (∀ ch ∈ t, ch = 48 ∨ ch = 49) ∧ v = .string ⟨t.toArray⟩) ∧ Below wr.drew.heap.size wr.drew W') (hbits.mono (fun e w' ⟨⟨t, h1, h2, h3⟩, h4⟩ => ⟨_, h3, ⟨t, h1, h2, rfl⟩, h4⟩))
      have XF := fun (t : List UInt8) (W9 : World) (hb9 : Below wr.drew.heap.size wr.drew W9) (ops : Array Oper) (o : Oper) (a : Act) (K : Act → World → Prop) (Q : Exit → Act → World → Prop) (E : Prop) h1 h2 h3 h4 h6 => step_append_lies (P := Tryd.prog) (ops := ops) (o := o) (a := a) (K := K) (Q := Q) (E := E) (W9.alloc (.cells #[.string ⟨t.toArray⟩] 9)) h1 (.tmp 38) (.tmp 47) 24 h2 w.heap.size 9 i0 (.string ⟨#[]⟩) 1 16 Tryd.underlying24 hi0 hz00 hz01 hz02 rfl (by omega) u5 ws.length _ h3 ((ownsRow_below (ownsRow_below hown (Below.drew (Below.refl _ _))) hb9).alloc _) ⟨W9.heap.size, 0, none⟩ 1 1 [.string ⟨t.toArray⟩] h4 rfl (cell_one_new _ _ _) (one_oneCell rfl) (by omega) (by unfold maxLen; omega) (by omega) (by have := hbD.size; have := hb9.size; simp only [World.size_alloc]; omega) (W9.heap.size + 1) (by rw [World.size_alloc]) h6
      clear HA hbits
      go_region_law (first
        | ((with_reducible refine YA _ _ _ _ _ _ ?_ (.func 6) [.tmp 42, .tmp 43, .const (.int .i64 4)] #[22, 2, 2] ?_ ?_ ?_ ?_); rfl; rfl; rfl; rfl; rintro zz W8 ⟨rfl, rfl⟩)
        | ((with_reducible refine YB _ _ _ _ _ _ ?_ (.func 7) [.tmp 41, .tmp 45] #[22, 2] ?_ ?_ ?_ ?_); rfl; rfl; rfl; rfl; rintro zz W9 ⟨⟨t, ht1, ht2, rfl⟩, hb9⟩)
        | (refine XF t W9 hb9 _ _ _ _ _ _ rfl rfl rfl rfl ?_; intro g2 c2' wA hown2 hgrow2 hat2 hlt2))
      all_goals
        have hbA : Below w.heap.size w wA := Below.grown ((hbD.trans (hb9.mono hbD.size)).alloc (by have := hbD.size; have := hb9.size; omega) _) (⟨hgrow2.1, hgrow2.2, hgrow2.3, hgrow2.4, hgrow2.5⟩ : (W9.alloc (.cells #[.string ⟨t.toArray⟩] 9)).grownBy wA u5.ownBlock) (by have := hbD.size; have := hb9.size; simp only [World.size_alloc]; omega) (fun q hq => (hown.lt q hq).1)
        have HW' : Hid (W14 (ws ++ [⟨t.toArray⟩])) := Lib.hid (fun x hx => by
          rcases List.mem_append.1 hx with h | h
          · exact hws.out x h
          · rw [List.mem_singleton] at h
            rw [h]
            exact ⟨by simp; omega, by simpa using ht2⟩)
        rw [show ws.map Value.string ++ [Value.string ⟨t.toArray⟩] = (ws ++ [(⟨t.toArray⟩ : ByteArray)]).map Value.string by simp] at hown2
        clear YA YB XF hgrow2
        go_wp2
        go_roundw
        case rel => exact ⟨k - 1, ws ++ [⟨t.toArray⟩], by congr 1; omega, by simp; omega, by rw [List.length_append]; exact hown2, HW', hbA⟩
        case measure => simp only [intOf]; omega
    · obtain rfl : k = 0 := by omega
      have hnl : ws.length = n0 := by omega
      obtain ⟨fr, uq, hF, hU, hfu, hT⟩ := words_told hws.out (by omega) (by omega)
      obtain ⟨z1, z2⟩ := w14_size hws.out (by omega)
      obtain ⟨a5, k5, rfl⟩ := ownsRow_shape hown
      have hv5 : ∀ W, Below wr.heap.size wr W → SlR W (.slice a5 n0 k5) (ws.map Value.string) := fun W hW => by
        have := (SlR.own hown).below hW
        rw [hnl] at this
        exact this
      have HPF : Hid (∀ W, Below wr.heap.size wr W → Calls Tryd.prog 8 #[.slice a5 n0 k5] W fun e w' => e = .returned (.tuple #[.bool fr, .bool true]) ∧ Below W.heap.size W w') := Lib.hid fun W hW => by
        have := impl_IsPrefixFree W _ ws (hv5 W hW) z1 z2
        rw [hF] at this
        exact this
      have HUQ : Hid (∀ W, Below wr.heap.size wr W → Calls Tryd.prog 9 #[.slice a5 n0 k5] W fun e w' => e = .returned (.tuple #[.bool uq, .bool true]) ∧ Below W.heap.size W w') := Lib.hid fun W hW => by
        have := impl_IsUnique W _ ws (hv5 W hW) z1 z2
        rw [hU] at this
        exact this
      have HTR : Hid (∀ (sx : ByteArray) (bx : Bool), out_TwoReadings ws = (sx, bx) → ∀ W, Below wr.heap.size wr W → Calls Tryd.prog 10 #[.slice a5 n0 k5] W fun e w' => e = .returned (.tuple #[.string sx, .bool bx]) ∧ Below W.heap.size W w') := Lib.hid fun sx bx hx W hW => by
        have := impl_TwoReadings W _ ws (hv5 W hW) z1 z2
        rw [hx] at this
        exact this
      rw [hnl] at hown ⊢
      have HV5 := Lib.hid hv5
      have HWS := hws
      have HNL := Lib.hid hnl
      clear hv5 hF hU z1 z2 hk hnl
      obtain ⟨sx, bx, hsx⟩ : ∃ (sx : ByteArray) (bx : Bool), out_TwoReadings ws = (sx, bx) := ⟨_, _, rfl⟩
      have HT3 := Lib.hid (HTR.out sx bx hsx)
      have hbu : (bx && uq) = false := by
        rcases hT with ⟨t, hT1, hT2, -, -, -⟩ | ⟨s, hT1⟩
        · rw [hT2, Bool.and_false]
        · rw [hT1] at hsx; cases hsx; rfl
      have hfq : (fr && !uq) = false := by
        cases fr
        · rfl
        · rw [hfu rfl]; rfl
      have HTX : Hid (bx = true → ∃ t : List UInt8, sx = ⟨t.toArray⟩ ∧ 1 ≤ t.length ∧ t.length ≤ 32 ∧ 2 ≤ (call ws t (c0 t) t.length)[t.length]?.getD 0) := Lib.hid fun hb => by
        rcases hT with ⟨t, hT1, -, hT3, hT4, hT5⟩ | ⟨s, hT1⟩
        · rw [hT1] at hsx; cases hsx; exact ⟨t, rfl, hT3, hT4, hT5⟩
        · rw [hT1] at hsx; cases hsx; cases hb
      clear hT hsx HTR hfu
      go_upto_region 12 with (first
            | (go_at_call 10; refine (HT3.out _ hb2).mono ?_; rintro e w3 ⟨rfl, hb3'⟩; have hb3 := hb2.trans (hb3'.mono hb2.size))
            | (go_at_call 9; refine (HUQ.out _ hb1).mono ?_; rintro e w2 ⟨rfl, hb2'⟩; have hb2 := hb1.trans (hb2'.mono hb1.size))
            | (go_at_call 8; refine (HPF.out _ (Below.refl _ _)).mono ?_; rintro e w1 ⟨rfl, hb1⟩))
      go_cut [82] from 64 to 82 (fun s82 wx => s82 = .bool false ∧ w3 = wx)
      case first =>
        cases fr
        · cases bx
          · clear hfq hbu
            go_wp2
            go_meet
            case rel => exact ⟨rfl, rfl⟩
          · simp only [Bool.true_and] at hbu
            subst hbu
            clear hfq
            go_wp2
            go_meet
            case rel => exact ⟨rfl, rfl⟩
        · simp only [Bool.true_and, Bool.not_eq_false'] at hfq
          subst hfq
          simp only [Bool.and_true] at hbu
          subst hbu
          go_wp2
          go_meet
          case rel => exact ⟨rfl, rfl⟩
      case rest =>
        obtain ⟨rfl, rfl⟩ := hcut
        have hb30 := hb3
        clear hbu hfq HPF HT3
        go_upto_if 83 with (fail)
        go_cut [14, 15, 16, 17] from 83 to 158 (fun _ _ _ _ wx => Below wr.heap.size wr wx)
        case first =>
          cases bx
          · go_wp2
            go_meet
            case rel => exact hb3
          · obtain ⟨t, rfl, ht1, ht2, ht3⟩ := HTX.out rfl
            clear HTX HUQ
            obtain ⟨wB, rfl⟩ : ∃ x, x = wr := ⟨_, rfl⟩
            obtain ⟨g5, rfl, hg5, hg5l⟩ := own_some hown (by omega)
            have HCW : Hid (∀ W, Below wB.heap.size wB W → ∀ k, k < n0 → W.cell? ⟨g5, k, none⟩ = some (.string ⟨(wbx ws k).toArray⟩)) := Lib.hid fun W hW k hk => by
              refine cell_step ?_ hW
              have := hown.cellAt k (by omega)
              rw [List.getElem?_map, List.getElem?_eq_getElem (by have := HNL.out; omega)] at this
              rw [this]
              unfold wbx
              rw [List.getElem?_eq_getElem (by have := HNL.out; omega)]
              rfl
            have HLW : Hid (∀ k, k < n0 → 1 ≤ (wbx ws k).length ∧ (wbx ws k).length ≤ 4) := Lib.hid fun k hk => (w14_at HWS.out (by have := HNL.out; omega)).1
            obtain ⟨rows, hrows⟩ : ∃ rows : Nat → List Nat, rows = call ws t (c0 t) := ⟨_, rfl⟩
            rw [← hrows] at ht3
            have HR0 : Hid ((List.replicate (t.length + 1) (Value.int .i64 0)).set 0 (.int .i64 1) = (rows 0).map nvl) := by
              show _ = _; rw [hrows, call, c0]; simp [List.replicate_succ, nvl]
            have HRS : Hid (∀ i, rows (i + 1) = crow ws t i (rows i) n0) := Lib.hid fun i => by rw [hrows, call, HNL.out]
            have HRL : Hid (∀ i, (rows i).length = t.length + 1) := Lib.hid fun i => by rw [hrows, call_length, c0_length]
            have HRC : Hid (∀ i k j, (crow ws t i (rows i) k)[j]?.getD 0 ≤ 100) := Lib.hid fun i k j => by rw [hrows]; exact crow_cap (call_cap (c0_cap t) i) i k j
            have HE3 := Lib.hid ht3
            have HWL : Hid (wrap64 ((t.length : Int) + 1) = ((t.length + 1 : Nat) : Int)) := by show _ = _; rw [Int.natCast_add]; exact IntWalk.wrap64_in _ (by omega)
            have HWM : Hid ((t.length : Int) + 1 = ((t.length + 1 : Nat) : Int)) := by show _ = _; rw [Int.natCast_add]; rfl
            obtain ⟨i9, hi9, hz90, hz91, hz92⟩ := info_parts info_intr
            clear hrows ht3
            go_wp2_with (at_make; go_loud (first | rw [HWL.out] | rw [HWM.out]; refine wpList_make_full _ rfl _ _ 31 rfl wB.heap.size 3 i9 (.int .i64 0) 1 Tryd.underlying31 hi9 hz90 hz91 .i64 .i64 _ _ (t.length + 1) rfl rfl rfl rfl (by rw [hz92]; omega) (by unfold maxLen; omega) hb3.size ?_; intro wc m4 g4; rw [Nat.mul_one, show (Value.cells (.int .i64 0)) = #[.int .i64 0] from rfl, toList_madeCells_one] at m4; have m4s := m4.stored 0 (.int .i64 1); rw [HR0.out] at m4s; have c40 := m4.cellAt 0 (by omega); have f40 := m4.frozenAt 0))
            have hbc : Below wB.heap.size wB (wc.setCell ⟨w3.heap.size, 0, none⟩ (.int .i64 1)) := (Below.grown hb3 g4 hb3.size (fun k hk => by cases hk)).setCell hb3.size _
            have m5 := m4s.1
            have hgq := hb3.size
            clear m4s c40 f40 m4 g4 HR0 HWL HWM hi9 hz90 hz91 hz92 hb1 hb2 hb2' hb3' hb30
            generalize w3.heap.size = gq at *
            go_loopw [15, 16, 17] (fun i _ _ W => ∃ q : Nat, q ≤ t.length ∧ i = .int .i64 (q : Int) ∧ W.ownsRow wB.heap.size 3 1 (.slice (some ⟨gq, 0, none⟩) (t.length + 1) (t.length + 1)) (t.length + 1) ((rows q).map nvl) ∧ Below wB.heap.size wB W) (fun i _ _ _ => t.length - (intOf i).toNat)
            case atStart => exact ⟨0, Nat.zero_le _, rfl, m5, hbc⟩
            case round =>
              clear m5 hbc
              obtain ⟨q, hq, rfl, hownq, hbq⟩ := hrel
              by_cases hqt : q < t.length
              · go_wp2_with fail
                have hown0 : wr.ownsRow wB.heap.size 3 1 (.slice (some ⟨gq, 0, none⟩) (t.length + 1) (t.length + 1)) (t.length + 1) ((crow ws t q (rows q) 0).map nvl) := hownq
                clear hownq
                have HS1 := Lib.hid (HRS.out q)
                have HCL : Hid (∀ p, (crow ws t q (rows q) p).length = t.length + 1) := Lib.hid fun p => by rw [crow_length, HRL.out]
                have HCC : Hid (∀ p j, (crow ws t q (rows q) p)[j]?.getD 0 ≤ 100) := Lib.hid fun p j => HRC.out q p j
                have HST : Hid (∀ p, crow ws t q (rows q) (p + 1) = cstp ws t q p (crow ws t q (rows q) p)) := Lib.hid fun p => rfl
                go_loopw [16, 17] (fun k _ W => ∃ p : Nat, p ≤ n0 ∧ k = .int .i64 (p : Int) ∧ W.ownsRow wB.heap.size 3 1 (.slice (some ⟨gq, 0, none⟩) (t.length + 1) (t.length + 1)) (t.length + 1) ((crow ws t q (rows q) p).map nvl) ∧ Below wB.heap.size wB W) (fun k _ _ => n0 - (intOf k).toNat)
                case atStart => exact ⟨0, Nat.zero_le _, rfl, hown0, hbq⟩
                case round =>
                  clear hown0 hbq
                  obtain ⟨p, hp, rfl, hownp, hbp⟩ := hrel
                  by_cases hpn : p < n0
                  · have hcw := HCW.out _ hbp p hpn
                    have hlw := HLW.out p hpn
                    have hst := HST.out p
                    have hcl := HCL.out p
                    have hcc := HCC.out p
                    have HWX : Hid (∀ W, Below wr.heap.size wr W → W.cell? ⟨g5, p, none⟩ = some (.string ⟨(wbx ws p).toArray⟩)) := Lib.hid fun W hW => cell_step hcw hW
                    unfold cstp at hst
                    have hen : ends ws t q p = (decide (q + (wbx ws p).length ≤ t.length) && decide ((t.drop q).take (wbx ws p).length = wbx ws p)) := rfl
                    obtain ⟨cN, hcN⟩ : ∃ cN, cN = crow ws t q (rows q) (p + 1) := ⟨_, rfl⟩
                    rw [← hcN] at hst
                    have HCN := Lib.hid hcN
                    clear hcN
                    generalize crow ws t q (rows q) p = cR at *
                    generalize wbx ws p = u at *
                    by_cases hfit : q + u.length ≤ t.length
                    · have hcut := run_cut_two t q u.length hfit
                      by_cases hz : (t.drop q).take u.length = u
                      · rw [hz] at hcut
                        rw [hen, decide_eq_true hfit, decide_eq_true hz, Bool.and_self, if_pos rfl] at hst
                        have hfd : decide (q + u.length ≤ t.length) = true := decide_eq_true hfit
                        have HST1 := Lib.hid hst
                        have k1 : (q : Int) + (u.length : Int) ≤ (t.length : Int) := by omega
                        clear hst hen hz
                        go_wp2
                        go_quiet (fail)
                        have hownz := own_drewR hownp nq
                        have hbz := below_drewN hbp nq
                        clear hownp hbp HWX hcw hcut
                        generalize wr.drewN nq = wq at *
                        have hod := ownsRow_below hownz ((Qu.refl _).drew).keep
                        have hbd := Below.drew hbz
                        have d1 := hod.cellAt (q + u.length) (by omega)
                        have d2 := hod.cellAt q (by omega)
                        rw [List.getElem?_map, List.getElem?_eq_getElem (by omega)] at d1 d2
                        have e1 := hcc (q + u.length)
                        have e2 := hcc q
                        have hst1 := HST1.out
                        rw [List.getElem?_eq_getElem (by omega)] at e1 e2
                        rw [List.getElem?_eq_getElem (by omega), List.getElem?_eq_getElem (by omega)] at hst1
                        have d3 := hod.frozenAt (q + u.length)
                        have HSO := Lib.hid (hod.stored (q + u.length))
                        have HST2 := Lib.hid hst1
                        clear hst1 HST1
                        generalize cR[q + u.length] = x1 at *
                        generalize cR[q] = x2 at *
                        replace d1 : wq.drew.cell? ⟨gq, q + u.length, none⟩ = some (.int .i64 (x1 : Int)) := d1
                        replace d2 : wq.drew.cell? ⟨gq, q, none⟩ = some (.int .i64 (x2 : Int)) := d2
                        replace e1 : x1 ≤ 100 := e1
                        replace e2 : x2 ≤ 100 := e2
                        have HMN : Hid (Value.int .i64 (min 100 ((x1 : Int) + (x2 : Int))) = nvl (min 100 (x1 + x2))) := by
                          show _ = _
                          unfold nvl
                          congr 1
                          omega
                        have HOD := Lib.hid hod
                        have HBD := Lib.hid hbd
                        have k2 : (q : Int) < (t.length : Int) + 1 := by omega
                        have k3 : (q : Int) + (u.length : Int) < (t.length : Int) + 1 := by omega
                        have k4 : (0 : Int) ≤ (q : Int) := by omega
                        have k5 : (0 : Int) ≤ (q : Int) + (u.length : Int) := by omega
                        have k7 : (q : Int) + (u.length : Int) < ((t.length + 1 : Nat) : Int) := by omega
                        have e3 : IntKind.i64.wrap ((q : Int) + (u.length : Int)) = (q : Int) + (u.length : Int) := IntWalk.i64_in _ (by omega)
                        have e4 : IntKind.i64.wrap ((x1 : Int) + (x2 : Int)) = (x1 : Int) + (x2 : Int) := IntWalk.i64_in _ (by omega)
                        have k6 : ((q : Int) + (u.length : Int)).toNat = q + u.length := by omega
                        clear hod hbd hownz hbz hcc hcl
                        go_wp2_with fail
                        refine wp_region_still_tail 17 (by kernel_rfl) (by kernel_rfl) ?_
                        change wpStill _ _ (World.drew wq) _ _ _
                        simp only [List.take_succ_cons, List.take_zero, List.drop_succ_cons, List.drop_zero]
                        repeat still_step
                        refine wpStill_nil ?_
                        go_wp2
                        go_roundw
                        case rel => exact ⟨p + 1, by omega, by go_num, by rw [← HCN.out, HST2.out, List.map_set, HMN.out]; exact (HSO.out _).1, HBD.out.setCell hgq _⟩
                        case measure => simp [intOf]; omega
                      · rw [hen, decide_eq_false hz, Bool.and_false, if_neg (by simp)] at hst
                        have hfd : decide (q + u.length ≤ t.length) = true := decide_eq_true hfit
                        have HST1 := Lib.hid hst
                        have k1 : (q : Int) + (u.length : Int) ≤ (t.length : Int) := by omega
                        clear hst hen
                        generalize (t.drop q).take u.length = z at *
                        have hzb : (z == u) = false := beq_false_of_ne hz
                        go_wp2
                        go_quiet (fail)
                        go_wp2
                        go_roundw
                        case rel => exact ⟨p + 1, by omega, by go_num, by rw [← HCN.out, HST1.out]; exact own_drewR hownp _, below_drewN hbp _⟩
                        case measure => simp [intOf]; omega
                    · rw [hen, decide_eq_false hfit, Bool.false_and, if_neg (by simp)] at hst
                      have hfd : decide (q + u.length ≤ t.length) = false := decide_eq_false hfit
                      have hfe : decide ((q : Int) + (u.length : Int) ≤ (t.length : Int)) = false := decide_eq_false (by omega)
                      have k1 : ¬ (q : Int) + (u.length : Int) ≤ (t.length : Int) := by omega
                      have HST1 := Lib.hid hst
                      clear hst hen
                      go_wp2
                      go_quiet (fail)
                      go_wp2
                      go_roundw
                      case rel => exact ⟨p + 1, by omega, by go_num, by rw [← HCN.out, HST1.out]; exact own_drewR hownp _, below_drewN hbp _⟩
                      case measure => simp [intOf]; omega
                  · obtain rfl : p = n0 := by omega
                    have HE := hownp
                    go_wp2
                    go_roundw
                    case rel => exact ⟨q + 1, by omega, by go_num, by rw [HS1.out]; exact hownp, hbp⟩
                    case measure => simp [intOf]; omega
              · obtain rfl : q = t.length := by omega
                have d1 := hownq.cellAt t.length (by omega)
                have hl := HRL.out t.length
                have he3 := HE3.out
                rw [List.getElem?_map, List.getElem?_eq_getElem (by omega)] at d1
                rw [List.getElem?_eq_getElem (by omega)] at he3
                generalize (rows t.length)[t.length] = x1 at *
                replace d1 : wr.cell? ⟨gq, t.length, none⟩ = some (.int .i64 (x1 : Int)) := d1
                replace he3 : 2 ≤ x1 := he3
                have k1 : ¬ (t.length : Int) < 1 := by omega
                have k2 : ¬ 32 < (t.length : Int) := by omega
                have k3 : ¬ (x1 : Int) < 2 := by omega
                clear hownq HE3 hl
                go_wp2
                go_meet
                case rel => exact hbq
        case rest =>
          have hoc := ownsRow_below hown hcut
          clear hown
          obtain ⟨g5, rfl, hg5, hg5l⟩ := own_some hoc (by omega)
          obtain ⟨s0, hs0⟩ : ∃ s0, s0 = ws[0]?.getD ⟨#[]⟩ := ⟨_, rfl⟩
          have hTW := twice_told HWS.out (by have := HNL.out; omega) (by have := HNL.out; omega)
          rw [← hs0] at hTW
          have HU2 : Hid (∀ (W : World) (v : Value), SlR W v ((ws ++ [s0]).map Value.string) → Calls Tryd.prog 9 #[v] W fun e w' => e = .returned (.tuple #[.bool false, .bool true]) ∧ Below W.heap.size W w') := Lib.hid fun W v hv => by
            obtain ⟨z1, z2⟩ := w14_size hTW.2 (by have := HNL.out; simp; omega)
            have := impl_IsUnique W v _ hv z1 z2
            rw [hTW.1] at this
            exact this
          have hcell0 : wc.cell? ⟨g5, 0, none⟩ = some (.string s0) := by
            have := hoc.cellAt 0 (by omega)
            rw [List.getElem?_map, List.getElem?_eq_getElem (by have := HNL.out; omega)] at this
            rw [this, hs0, List.getElem?_eq_getElem (by have := HNL.out; omega)]
            rfl
          have hlw : (ws.map Value.string).length = n0 * 1 := by rw [List.length_map, HNL.out, Nat.mul_one]
          have h1c : ∀ u ∈ ws.map Value.string, u.oneCell' = true := fun u hu => by
            obtain ⟨x, _, rfl⟩ := List.mem_map.1 hu; rfl
          have hbW : Below w.heap.size w wc := hb.trans (hcut.mono hb.size)
          clear hTW hs0
          obtain ⟨wv, hwvE⟩ : ∃ wv, ws.map Value.string = wv := ⟨_, rfl⟩
          rw [hwvE] at hoc hlw h1c
          obtain ⟨A0, hA0⟩ : ∃ A0 : World, A0 = wc.drew.alloc (.cells #[] 9) := ⟨_, rfl⟩
          obtain ⟨B0, hB0⟩ : ∃ B0 : World, B0 = (wc.drew.alloc (.cells #[] 9)).alloc (.cells #[.string s0] 9) := ⟨_, rfl⟩
          obtain ⟨C0, hC0⟩ : ∃ C0 : World, C0 = (wc.drew.alloc (.cells #[.string s0] 9)).alloc (.cells #[] 9) := ⟨_, rfl⟩
          have bA : Below wc.heap.size wc A0 := by rw [hA0]; go_grown
          have bB : Below wc.heap.size wc B0 := by rw [hB0]; go_grown
          have bC : Below wc.heap.size wc C0 := by rw [hC0]; go_grown
          have oA : A0.ownsRow wc.heap.size 9 1 (.slice (some ⟨wc.heap.size, 0, none⟩) 0 0) 0 [] := by rw [hA0]; exact World.ownsRow_made wc.drew #[] 0 (Nat.le_refl _) (Nat.zero_le _) rfl
          have oB : B0.ownsRow wc.heap.size 9 1 (.slice (some ⟨wc.heap.size, 0, none⟩) 0 0) 0 [] := by rw [hB0]; exact (World.ownsRow_made wc.drew #[] 0 (Nat.le_refl _) (Nat.zero_le _) rfl).alloc _
          have oC : C0.ownsRow wc.heap.size 9 1 (.slice (some ⟨wc.heap.size + 1, 0, none⟩) 0 0) 0 [] := by
            rw [hC0]
            have hz : (wc.drew.alloc (.cells #[.string s0] 9)).heap.size = wc.heap.size + 1 := by rw [World.size_alloc]; rfl
            have : ((wc.drew.alloc (.cells #[.string s0] 9)).alloc (.cells #[] 9)).ownsRow wc.heap.size 9 1 (.slice (some ⟨(wc.drew.alloc (.cells #[.string s0] 9)).heap.size, 0, none⟩) 0 0) 0 [] := World.ownsRow_made _ #[] 0 (by rw [hz]; omega) (Nat.zero_le _) rfl
            rw [hz] at this
            exact this
          have sB : B0.cell? ⟨wc.heap.size + 1, 0, none⟩ = some (.string s0) := by rw [hB0]; exact cell_new1 _ _ _ (by rw [World.size_alloc]; rfl)
          have sC : C0.cell? ⟨wc.heap.size, 0, none⟩ = some (.string s0) := by
            rw [hC0]
            exact cell_step (W := wc.drew.alloc (.cells #[.string s0] 9)) (cell_new1 _ _ _ rfl) (by go_grown)
          have zB : B0.heap.size = wc.heap.size + 2 := by rw [hB0, World.size_alloc, World.size_alloc]; rfl
          have zC : C0.heap.size = wc.heap.size + 2 := by rw [hC0, World.size_alloc, World.size_alloc]; rfl
          have zA : A0.heap.size = wc.heap.size + 1 := by rw [hA0, World.size_alloc]; rfl
          have X1 := fun (X : World) (q : Nat) (hX : Below wc.heap.size wc X) (ho : X.ownsRow wc.heap.size 9 1 (.slice (some ⟨q, 0, none⟩) 0 0) 0 []) (ops : Array Oper) (o : Oper) (a : Act) (K : Act → World → Prop) (Q : Exit → Act → World → Prop) (E : Prop) h1 h2 h3 h4 h6 => step_append_lies (P := Tryd.prog) (ops := ops) (o := o) (a := a) (K := K) (Q := Q) (E := E) X h1 (.tmp 160) (.tmp 161) 24 h2 wc.heap.size 9 i0 (.string ⟨#[]⟩) 1 16 Tryd.underlying24 hi0 hz00 hz01 hz02 rfl (by omega) (.slice (some ⟨q, 0, none⟩) 0 0) 0 [] h3 ho ⟨g5, 0, none⟩ n0 k5 wv h4 hlw (own_news (ownsRow_below hoc hX)) h1c (by omega) (by unfold maxLen; omega) (by omega) hX.size X.heap.size rfl h6
          have X2 := fun (Y : World) (ad : Addr) (g2 c2' : Nat) (hY : wc.heap.size ≤ Y.heap.size) (ho : Y.ownsRow wc.heap.size 9 1 (.slice (some ⟨g2, 0, none⟩) n0 c2') n0 wv) (hn : ∀ j u, [Value.string s0][j]? = some u → Y.cell? (ad.add j) = some u) (ops : Array Oper) (o : Oper) (a : Act) (K : Act → World → Prop) (Q : Exit → Act → World → Prop) (E : Prop) h1 h2 h3 h4 h6 => step_append_lies (P := Tryd.prog) (ops := ops) (o := o) (a := a) (K := K) (Q := Q) (E := E) Y h1 (.tmp 162) (.tmp 166) 24 h2 wc.heap.size 9 i0 (.string ⟨#[]⟩) 1 16 Tryd.underlying24 hi0 hz00 hz01 hz02 rfl (by omega) (.slice (some ⟨g2, 0, none⟩) n0 c2') n0 wv h3 ho ad 1 1 [.string s0] h4 rfl hn (one_oneCell rfl) (by omega) (by unfold maxLen; omega) (by omega) hY Y.heap.size rfl h6
          have Y3 := fun (W : World) (v : Value) (hv : SlR W v ((ws ++ [s0]).map Value.string)) (ops : Array Oper) (o : Oper) (A : Act) (K : Act → World → Prop) (Q : Exit → Act → World → Prop) (E : Prop) => step_callX (P := Tryd.prog) (ops := ops) (o := o) (A := A) (w := W) (K := K) (Q := Q) (E := E) (fun args w => run_enterX Tryd.func9 (by kernel_rfl) (by kernel_rfl) args w) [v] [] (fun v' W' => v' = .tuple #[.bool false, .bool true] ∧ Below W.heap.size W W') ((HU2.out W v hv).mono (fun e w' ⟨h1, h2⟩ => ⟨_, h1, rfl, h2⟩))
          have hwv : ∀ W g3 cC, W.ownsRow wc.heap.size 9 1 (.slice (some ⟨g3, 0, none⟩) (n0 + 1) cC) (n0 + 1) (wv ++ [Value.string s0]) → SlR W (.slice (some ⟨g3, 0, none⟩) (n0 + 1) cC) ((ws ++ [s0]).map Value.string) := fun W g3 cC h => by
            have := SlR.own h
            rw [← hwvE] at this
            rw [List.map_append]
            exact this
          have HWV := Lib.hid hwv
          clear HU2 hwv hoc
          have cD : wc.drew.cell? ⟨g5, 0, none⟩ = some (.string s0) := hcell0
          have cA : (wc.drew.alloc (.cells #[] 9)).cell? ⟨g5, 0, none⟩ = some (.string s0) := cell_step hcell0 (by go_grown)
          subst hA0 hB0 hC0
          have hn00 : 0 < n0 := by omega
          go_upto_region 28 with (fail)
          go_region_law (first
            | ((refine X1 (wc.drew.alloc (.cells #[] 9)) _ bA oA _ _ _ _ _ _ rfl rfl rfl rfl ?_); intro g2 cB wB hoB hgB hatB hltB; rw [Nat.zero_add, List.nil_append] at hoB; have hbB := Below.grown bA (⟨hgB.1, hgB.2, hgB.3, hgB.4, hgB.5⟩ : (wc.drew.alloc (.cells #[] 9)).grownBy wB (some wc.heap.size)) bA.size (fun k hk => by cases hk; exact Nat.le_refl _); have cB0 := cell_step hcell0 hbB)
            | ((refine X1 ((wc.drew.alloc (.cells #[] 9)).alloc (.cells #[.string s0] 9)) _ bB oB _ _ _ _ _ _ rfl rfl rfl rfl ?_); intro g2 cB wB hoB hgB hatB hltB; rw [Nat.zero_add, List.nil_append] at hoB; have hgX := (⟨hgB.1, hgB.2, hgB.3, hgB.4, hgB.5⟩ : ((wc.drew.alloc (.cells #[] 9)).alloc (.cells #[.string s0] 9)).grownBy wB (some wc.heap.size)); have hbB := Below.grown bB hgX bB.size (fun k hk => by cases hk; exact Nat.le_refl _); have hsB := World.grownBy.cell hgX sB (fun e => by simp at e))
            | ((refine X1 ((wc.drew.alloc (.cells #[.string s0] 9)).alloc (.cells #[] 9)) _ bC oC _ _ _ _ _ _ rfl rfl rfl rfl ?_); intro g2 cB wB hoB hgB hatB hltB; rw [Nat.zero_add, List.nil_append] at hoB; have hgX := (⟨hgB.1, hgB.2, hgB.3, hgB.4, hgB.5⟩ : ((wc.drew.alloc (.cells #[.string s0] 9)).alloc (.cells #[] 9)).grownBy wB (some (wc.heap.size + 1))); have hbB := Below.grown bC hgX bC.size (fun k hk => by cases hk; omega); have hsB := World.grownBy.cell hgX sC (fun e => by simp at e))
            | ((refine X2 (wB.alloc (.cells #[.string s0] 9)) ⟨wB.heap.size, 0, none⟩ g2 cB (by rw [World.size_alloc]; have := hbB.size; omega) (hoB.alloc _) (one_news (cell_new1 _ _ _ rfl)) _ _ _ _ _ _ rfl rfl rfl rfl ?_); intro g3 cC wE hoE hgE hatE hltE; have hbE := Below.grown (hbB.alloc hbB.size _) (⟨hgE.1, hgE.2, hgE.3, hgE.4, hgE.5⟩ : (wB.alloc (.cells #[.string s0] 9)).grownBy wE (some g2)) (by rw [World.size_alloc]; have := hbB.size; omega) (fun q hq => (hoB.lt q hq).1))
            | ((refine X2 wB ⟨wc.heap.size + 1, 0, none⟩ g2 cB hbB.size hoB (one_news hsB) _ _ _ _ _ _ rfl rfl rfl rfl ?_); intro g3 cC wE hoE hgE hatE hltE; have hbE := Below.grown hbB (⟨hgE.1, hgE.2, hgE.3, hgE.4, hgE.5⟩ : wB.grownBy wE (some g2)) hbB.size (fun q hq => (hoB.lt q hq).1))
            | ((refine X2 wB ⟨wc.heap.size, 0, none⟩ g2 cB hbB.size hoB (one_news hsB) _ _ _ _ _ _ rfl rfl rfl rfl ?_); intro g3 cC wE hoE hgE hatE hltE; have hbE := Below.grown hbB (⟨hgE.1, hgE.2, hgE.3, hgE.4, hgE.5⟩ : wB.grownBy wE (some g2)) hbB.size (fun q hq => (hoB.lt q hq).1))
            | ((with_reducible refine Y3 wE _ (HWV.out _ _ _ hoE) _ _ _ _ _ _ ?_ (.func 9) [.tmp 167] #[24] ?_ ?_ ?_ ?_); rfl; rfl; rfl; rfl; rintro zz W8 ⟨rfl, hb8⟩))
          all_goals
            have hbF : Below w.heap.size w W8 := hbW.trans ((hbE.trans (hb8.mono hbE.size)).mono hbW.size)
            have HT2 := Lib.hid (tworeadings_w3 W8)
            clear X1 X2 Y3 hbB hbE hb8
            go_wp2_with (go_at_call 10; refine HT2.out.mono ?_; rintro e w9 ⟨rfl, hb9⟩)
            go_ret
            exact ⟨rfl, hbF.trans (hb9.mono hbF.size)⟩

end Go.Proofs.YtjobgobeiiakgaaDoor
