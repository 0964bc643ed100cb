/- Texts that are made of words in two ways: the reference's readings. -/
import Derived.Test.YtcgenmkgdhaejaaDoorDjp
import Derived.Test.YtcgenmkgdhaejaaDoorPfx3
import Derived.Deep.RegionLaw
namespace Go.Proofs.YtcgenmkgdhaejaaDoor
set_option linter.unusedSimpArgs false
set_option linter.unusedVariables false
open Go.RowKit
theorem run_enter {P : Program} {f : FuncId} {fn : Func} (hf : P.funcs[f]? = some fn) (hname : (fn.name == "runtime.NumGoroutine") = false) (hb : fn.body.isSome = true) (args : Array Value) (w : World) : (callFunc f args).run P w = .ok (.enter f args) w := by
  obtain ⟨c, hc⟩ := Option.isSome_iff_exists.1 hb
  have h1 : fn.name ≠ "runtime.NumGoroutine" := by simpa using hname
  simp [callFunc, hf, h1, hc, mark, Sem.run]
theorem step_callE {P : Program} {ops : Array Oper} {o : Oper} {A : Act} {w : World} {K : Act → World → Prop} {Q : Exit → Act → World → Prop} {E : Prop} {f : FuncId} (hen : ∀ args w, (callFunc f args).run P w = .ok (.enter f args) w) (vals cap : List Value) (R : Value → World → Prop) (hc : Calls P f (vals ++ cap).toArray w fun e w' => ∃ v, e = .returned v ∧ R v w')
    (hgd : o.guard = none) (callee : Operand) (argOps : List Operand) (tys : Array TypeId)
    (hop : o.op = .call { callee := .value callee, args := argOps.toArray, argTypes := tys }) (hcal : A.eval callee = .func (.func f) #[] cap.toArray) (hargs : argOps.map A.eval = vals) (hK : ∀ v W', R v W' → K (A.put o.dst v) W') :
    if Region.wanted o (yielded ops A.tmps) = true then Oper.wp P o A w K Q else E := by
  have hw : Region.wanted o (yielded ops A.tmps) = true := by simp [Region.wanted, hgd]
  rw [if_pos hw]
  have hrun : (execOp A.eval o).run P w = .ok (.enter f (vals ++ cap).toArray) w := by
    simp [execOp, hop, resolve, Deferred.ofValue, hcal, invoke, hargs, hen, Result.andThen]
  unfold Oper.wp
  rw [hrun, Oper.upon_enter]
  exact hc.mono (by rintro e w' ⟨v, rfl, h⟩; exact hK _ _ h)
theorem filt_range {α : Type} (f : Nat → Bool) (g : α → Bool) : ∀ (M : List α) (s : Nat), (∀ (i : Nat) (a : α), M[i]? = some a → f (s + i) = g a) → ((List.range' s M.length).filter f).length = (M.filter g).length
  | [], _, _ => rfl
  | a :: r, s, h => by
    have h0 := h 0 a rfl
    have ih := filt_range f g r (s + 1) (fun i b hb => by have := h (i + 1) b (by simpa using hb); rw [← this]; congr 1; omega)
    rw [List.length_cons, List.range'_succ, List.filter_cons, List.filter_cons]
    rw [Nat.add_zero] at h0
    rw [h0]
    cases g a <;> simp [ih]
theorem kp_below {w wr W : World} {B : Nat} {v u : Value} (hb : Below B w wr) (hB : B ≤ wr.heap.size) (hk : Kp wr W v u) (hv : ∀ k, v.ownBlock = some k → B ≤ k) (hu : ∀ k, u.ownBlock = some k → B ≤ k) : Below B w W :=
  ⟨hk.1.trans hb.os, hk.2.1.trans hb.tape, hk.2.2.1.trans hb.output, Nat.le_trans hb.size hk.2.2.2.1, fun k hlt => (hk.2.2.2.2 k (by omega) (fun e => by have := hv k e; omega) (fun e => by have := hu k e; omega)).trans (hb.block k hlt)⟩
theorem kp_cell {w w' : World} {v u : Value} {a : Addr} {x : Value} (h : Kp w w' v u) (hc : w.cell? a = some x) (h1 : v.ownBlock ≠ some a.block) (h2 : u.ownBlock ≠ some a.block) : w'.cell? a = some x :=
  (World.cell?_of_block (h.2.2.2.2 a.block (World.block_lt_of_cell? w a hc) h1 h2)).trans hc
theorem own_ne {g g' X n c : Nat} (e : (Value.slice (some ⟨g, 0, none⟩) n c).ownBlock = some g') (h : g < X) : g' ≠ X := by
  have e2 : g = g' := by simpa [Value.ownBlock] using e
  omega
open Classical in
/-- How many marks are set. -/
noncomputable def cntW (W : World) (u : Value) : Nat := ((List.range (slLenB u)).filter (fun i => decide (∃ g, u.ownBlock = some g ∧ W.cell? ⟨g, i, none⟩ = some (.bool true)))).length
where slLenB : Value → Nat
  | .slice _ n _ => n
  | _ => 0
theorem cntW_is {W : World} {B : Nat} {v u : Value} {M : List Ah} (h : Two W B v u M) : cntW W u = cntD M := by
  obtain ⟨-, hd, -⟩ := h
  obtain ⟨a, c, rfl⟩ := ownsRow_shape hd
  unfold cntW cntD
  show ((List.range M.length).filter _).length = _
  rw [List.range_eq_range']
  refine filt_range _ _ M 0 (fun i p hp => ?_)
  have hi := (List.getElem?_eq_some_iff.1 hp).1
  obtain ⟨g, rfl, -, -⟩ := own_some hd (by omega)
  have hc := hd.cellAt i (by omega)
  rw [bl_at hp] at hc
  rw [Nat.zero_add]
  cases hb : p.2
  · rw [hb] at hc
    simp only [decide_eq_false_iff_not]
    rintro ⟨g', e1, e2⟩
    cases e1
    rw [hc] at e2
    cases e2
  · rw [hb] at hc
    simp only [decide_eq_true_eq]
    exact ⟨g, rfl, hc⟩
/-- The best one so far. -/
def bestP (M : List Ah) (i : Nat) : Option Nat → Prop
  | none => ∀ (j : Nat) (p : Ah), j < i → M[j]? = some p → p.2 = true
  | some b => b < i ∧ ∃ p : Ah, M[b]? = some p ∧ p.2 = false ∧ ∀ (j : Nat) (q : Ah), j < i → M[j]? = some q → q.2 = false → rk p.1.2 ≤ rk q.1.2
def bestI : Option Nat → Int | none => -1 | some b => (b : Int)
theorem two_start (w : World) : Two ((w.alloc (.cells #[] 69)).alloc (.cells #[] 4)) w.heap.size (.slice (some ⟨w.heap.size, 0, none⟩) 0 0) (.slice (some ⟨w.heap.size + 1, 0, none⟩) 0 0) [] := by
  have h1 : (w.alloc (.cells #[] 69)).ownsRow w.heap.size 69 2 (.slice (some ⟨w.heap.size, 0, none⟩) 0 0) 0 [] := World.ownsRow_made w #[] 0 (Nat.le_refl _) (Nat.zero_le _) rfl
  have h2 : ((w.alloc (.cells #[] 69)).alloc (.cells #[] 4)).ownsRow w.heap.size 4 1 (.slice (some ⟨(w.alloc (.cells #[] 69)).heap.size, 0, none⟩) 0 0) 0 [] := World.ownsRow_made _ #[] 0 (by simp) (Nat.zero_le _) rfl
  rw [World.size_alloc] at h2
  refine ⟨h1.alloc _, h2, fun k hk1 hk2 => ?_⟩
  simp [Value.ownBlock] at hk1 hk2
  omega
/-- What the readings give. -/
def LrP (ws : List ByteArray) (w : World) (x : Value) (w' : World) : Prop := ∃ (t : List UInt8) (b : Bool), x = .tuple #[.string ⟨t.toArray⟩, .bool b] ∧ ((b = true ∧ isMin ws t) ∨ (b = false ∧ t = [] ∧ ¬ ∃ t, Way ws [] t)) ∧ Below w.heap.size w w'

set_option maxRecDepth 100000 in
set_option maxHeartbeats 8000000 in
theorem l04Readings_any (v : Value) (ws : List ByteArray) (w : World) (hv : SlR w v (ws.map Value.string)) (hok : wsOk ws = true) :
    Calls Tryd.prog 34 #[v] w fun e w' => ∃ x, e = .returned x ∧ LrP ws w x w' := by
  have hw := wsOk_bits hok
  obtain ⟨q1, q2, -⟩ := wsOk_parts hok
  obtain ⟨a, n, c, rfl, hnl, hnc, hcm, hcell⟩ := SlR.opened ⟨#[]⟩ hv
  unfold maxLen at hcm
  have hn16 : n ≤ 16 := by omega
  have HW := Lib.hid hw
  have HN := Lib.hid hnl
  have HQ2 := Lib.hid q2
  have HC := Lib.hid hcell
  have HL := Lib.hid (fun k => (hw k).2)
  have HPT : Hid (∀ (W : World) (x y : Value) (M : List Ah), Two W w.heap.size x y M → w.heap.size ≤ W.heap.size → M.length ≤ 1000 → ∀ (r t : List UInt8), Calls Tryd.prog 54 #[x, y, .agg #[.string ⟨r.toArray⟩, .string ⟨t.toArray⟩]] W fun e w' => ∃ z, e = .returned z ∧ ∃ v' u' M', z = .tuple #[v', u'] ∧ PutR M (r, t) M' ∧ Two w' w.heap.size v' u' M' ∧ Kp W w' x y ∧ Lie W x v' ∧ Lie W y u') :=
    Lib.hid (fun W x y M h1 h2 h3 r t => l04Put_any W _ x y M h1 h2 h3 r t)
  have HB : Hid (∀ (l u : List UInt8) (W : World), l.length ≤ 1048576 → u.length ≤ 1048576 → Calls Tryd.prog 27 #[.string ⟨l.toArray⟩, .int .i64 0, .string ⟨u.toArray⟩] W fun e w' => e = .returned (.bool (u.isPrefixOf l)) ∧ w' = W) := by
    show ∀ (l u : List UInt8) (W : World), _
    intro l u W h1 h2
    exact (begins_any l 0 u W (Nat.zero_le _) h1 h2).mono fun _ _ h => ⟨h.1, h.2.symm⟩
  have hst := two_start w
  have hbst : Below w.heap.size w ((w.alloc (.cells #[] 69)).alloc (.cells #[] 4)) := by go_grown
  clear hw hok q1 q2 hnl hcell hcm hnc hv
  go_enter Tryd.func34, Tryd.ntmps34
  go_wp2
  generalize (w.alloc (.cells #[] 69)).alloc (.cells #[] 4) = w0 at *
  go_loopw [4, 5, 6] (fun x y q wr => ∃ (i : Nat) (M : List Ah), q = .int .i64 (i : Int) ∧ i ≤ n ∧ Two wr w.heap.size x y M ∧ Hid (D0 ws M (fun a b => a < i ∧ b < n)) ∧ Below w.heap.size w wr) (fun _ _ q _ => n - (intOf q).toNat)
  case atStart => exact ⟨0, [], rfl, Nat.zero_le _, hst, Lib.hid ((d0_start ws).imp (fun i k h => by omega)), hbst⟩
  case round =>
    clear hst hbst
    obtain ⟨i, M, rfl, hi, h2, hD, hb⟩ := hrel
    by_cases hlt : i < n
    · obtain ⟨b0, off, rfl, hc0, hbl⟩ := HC.out i hlt
      rw [List.getD_eq_getElem?_getD, wbx_eq] at hc0
      have hui := HL.out i
      obtain ⟨u, hu⟩ : ∃ u, u = wbx ws i := ⟨_, rfl⟩
      rw [← hu] at hc0 hui
      have HU := Lib.hid hu
      clear hu
      go_wp2
      go_loopw [4, 5, 7] (fun x y q wr => ∃ (k : Nat) (M : List Ah), q = .int .i64 (k : Int) ∧ k ≤ n ∧ Two wr w.heap.size x y M ∧ Hid (D0 ws M (fun a b => (a < i ∧ b < n) ∨ (a = i ∧ b < k))) ∧ Below w.heap.size w wr) (fun _ _ q _ => n - (intOf q).toNat)
      case atStart => exact ⟨0, M, rfl, Nat.zero_le _, h2, Lib.hid (hD.out.imp (fun a b h => by
        rcases h with h | ⟨h1, h2⟩
        · exact .inl h
        · omega)), hb⟩
      case round =>
        clear h2 hD hb
        obtain ⟨k, M, rfl, hk, h2, hD, hb⟩ := hrel
        by_cases hkn : k < n
        · obtain ⟨b1, off1, he1, hc1, hbl1⟩ := HC.out k hkn
          cases he1
          rw [List.getD_eq_getElem?_getD, wbx_eq] at hc1
          have hcx := cell_step hc1 hb
          have hcu := cell_step hc0 hb
          have hxk := HL.out k
          have HQ : Hid (pfx ws i k = (!decide (i = k) && u.isPrefixOf (wbx ws k))) := by show _ = _; rw [HU.out]; rfl
          obtain ⟨x, hx⟩ : ∃ x, x = wbx ws k := ⟨_, rfl⟩
          rw [← hx] at hcx hxk HQ
          have HX := Lib.hid hx
          clear hx hc1
          have HSK : Hid (pfx ws i k = false → D0 ws M (fun a b => (a < i ∧ b < n) ∨ (a = i ∧ b < k + 1))) := by
            show _ → _
            intro hp
            refine hD.out.imp (fun a b h => ?_)
            rcases h with h | ⟨h1, h2⟩
            · exact .inl (.inl h)
            · by_cases e : b = k
              · subst e; subst h1; exact .inr hp
              · exact .inl (.inr ⟨h1, by omega⟩)
          by_cases hik : i = k
          · have HF : Hid (pfx ws i k = false) := by show _ = _; rw [HQ.out, decide_eq_true hik]; rfl
            have HS2 := Lib.hid (HSK.out HF.out)
            subst hik
            go_wp2_with fail
            go_quiet (fail)
            have hq2 := ((Qu.refl wr).drewN nq).keep
            have h3 := h2.below hq2
            have hb3 := hb.trans (hq2.mono hb.size)
            go_wp2
            go_roundw
            case rel => exact ⟨i + 1, M, by go_num, by omega, h3, HS2, hb3⟩
            case measure => simp [intOf]; omega
          · have k1 : ¬ (i : Int) = (k : Int) := by omega
            have k2 : decide (i = k) = false := decide_eq_false hik
            have hbx : ∀ W : World, Calls Tryd.prog 27 #[.string ⟨x.toArray⟩, .int .i64 0, .string ⟨u.toArray⟩] W fun e w' => e = .returned (.bool (u.isPrefixOf x)) ∧ w' = W := fun W => HB.out x u W (by omega) (by omega)
            cases hp : u.isPrefixOf x
            · have HF : Hid (pfx ws i k = false) := by show _ = _; rw [HQ.out, hp, Bool.and_false]
              have HS2 := Lib.hid (HSK.out HF.out)
              rw [hp] at hbx
              have HBX := Lib.hid hbx
              clear hp hbx
              go_wp2_with fail
              go_quiet ((go_at_call 27; exact Calls.quiet_of_same (HBX.out _)))
              have hq2 := ((Qu.refl wr).drewN nq).keep
              have h3 := h2.below hq2
              have hb3 := hb.trans (hq2.mono hb.size)
              go_wp2
              go_roundw
              case rel => exact ⟨k + 1, M, by go_num, by omega, h3, HS2, hb3⟩
              case measure => simp [intOf]; omega
            · have HF : Hid (pfx ws i k = true) := by show _ = _; rw [HQ.out, hp, k2]; rfl
              have hpl := List.IsPrefix.length_le (List.isPrefixOf_iff_prefix.1 hp)
              have hcut := run_cut_d x u.length hpl
              have HZ : Hid (x.drop u.length = (wbx ws k).drop (wbx ws i).length) := by show _ = _; rw [HX.out, HU.out]
              rw [hp] at hbx
              have HBX := Lib.hid hbx
              clear hp hbx
              go_wp2_with fail
              go_quiet ((go_at_call 27; exact Calls.quiet_of_same (HBX.out _)))
              have hq2 := ((Qu.refl wr).drewN nq).keep
              have h3 := h2.below hq2
              have hb3 := hb.trans (hq2.mono hb.size)
              have hcx2 := cell_step hcx hq2
              have hcu2 := cell_step hcu hq2
              clear hcx hcu h2 hb
              generalize wr.drewN nq = wq at *
              obtain ⟨z, hz⟩ : ∃ z, z = x.drop u.length := ⟨_, rfl⟩
              rw [← hz] at hcut HZ
              clear hz
              have hCC := HPT.out wq.drew _ _ M (h3.below (by go_grown)) hb3.size (by have := base_len HW.out HQ2.out hD.out.1; omega) z x
              have HCC := Lib.hid hCC
              have Y := fun (ops : Array Oper) (o : Oper) (A : Act) (K : Act → World → Prop) (Q : Exit → Act → World → Prop) (E : Prop) => step_callE (P := Tryd.prog) (ops := ops) (o := o) (A := A) (w := wq.drew) (K := K) (Q := Q) (E := E) (fun args w => run_enter Tryd.func54 (by kernel_rfl) (by kernel_rfl) args w) [u4, u5, .agg #[.string ⟨z.toArray⟩, .string ⟨x.toArray⟩]] [] _ HCC.out
              have HNEW : Hid (∀ M9, PutR M (z, x) M9 → D0 ws M9 (fun a b => (a < i ∧ b < n) ∨ (a = i ∧ b < k + 1))) := by
                show ∀ M9, _
                intro M9 hput
                rw [HZ.out, HX.out] at hput
                refine (d0_put HW.out hD.out (by rw [HN.out]; exact hlt) (by rw [HN.out]; exact hkn) HF.out hput).imp (fun a b h => .inl ?_)
                rcases h with h | ⟨h1, h2⟩
                · exact .inl (.inl h)
                · by_cases e : b = k
                  · exact .inr ⟨h1, e⟩
                  · exact .inl (.inr ⟨h1, by omega⟩)
              have HBE : Hid (∀ W9, Kp wq.drew W9 u4 u5 → Below w.heap.size w W9) := Lib.hid (fun W9 hk => kp_below (Below.drew hb3) hb3.size hk (fun k hk => (h3.1.lt k hk).1) (fun k hk => (h3.2.1.lt k hk).1))
              clear hCC
              --REG10
              go_wp2
              go_region_law ((with_reducible refine Y _ _ _ _ _ _ ?_ (.func 54) [.tmp 43, .tmp 44, .tmp 59] #[64, 65, 69] ?_ ?_ ?_ ?_); rfl; rfl; rfl; rfl; intro zz W9 hR; obtain ⟨v9, u9, M9, rfl, hput, h9, hkp, hl1, hl2⟩ := hR)
              all_goals
                have HDN := Lib.hid (HNEW.out _ hput)
                have hb9 := HBE.out _ hkp
                clear Y HCC hput
                go_wp2
                go_roundw
                case rel => exact ⟨k + 1, M9, by go_num, by omega, h9, HDN, hb9⟩
                case measure => simp [intOf]; omega
              --REG10END
        · obtain rfl : n = k := by omega
          have HDN := Lib.hid (hD.out.imp (Q' := fun a b => a < i + 1 ∧ b < n) (fun a b h => .inl (by omega)))
          go_wp2
          go_roundw
          case rel => exact ⟨i + 1, M, by go_num, by omega, h2, HDN, hb⟩
          case measure => simp [intOf]; omega
    · obtain rfl : n = i := by omega
      have HDI : Hid (DI ws M) := by
        have h := hD.out
        rw [← HN.out] at h
        exact d0_end h
      clear hD
      go_wp2
      go_loopw [4, 5] (fun x y wr => ∃ M, Two wr w.heap.size x y M ∧ Hid (DI ws M) ∧ Below w.heap.size w wr) (fun _ y wr => 529 - cntW wr y)
      case atStart => exact ⟨M, h2, HDI, hb⟩
      case round =>
        clear h2 hb HDI
        obtain ⟨M, h2, hD, hb⟩ := hrel
        have hlen : M.length ≤ 528 := base_len HW.out HQ2.out hD.out.1
        have HCNT := Lib.hid (cntW_is h2)
        obtain ⟨N, hN⟩ : ∃ N, N = M.length := ⟨_, rfl⟩
        have HM := Lib.hid hN
        rw [← hN] at hlen
        clear hN
        obtain ⟨av, nv, cv, rfl⟩ : ∃ a n c, u4 = .slice a n c := by obtain ⟨a, c, h⟩ := ownsRow_shape h2.1; exact ⟨a, _, c, h⟩
        obtain ⟨au, nu, cu, rfl⟩ : ∃ a n c, u5 = .slice a n c := by obtain ⟨a, c, h⟩ := ownsRow_shape h2.2.1; exact ⟨a, _, c, h⟩
        obtain rfl : nv = N := by
          obtain ⟨a, c, h⟩ := ownsRow_shape h2.1
          cases h; exact HM.out.symm
        obtain rfl : nu = nv := by
          obtain ⟨a, c, h⟩ := ownsRow_shape h2.2.1
          cases h; exact HM.out.symm
        go_wp2
        go_loopw [8, 9] (fun bq q wr => ∃ (i : Nat) (bo : Option Nat), bq = .int .i64 (bestI bo) ∧ q = .int .i64 (i : Int) ∧ i ≤ nu ∧ Hid (bestP M i bo) ∧ Two wr w.heap.size (.slice av nu cv) (.slice au nu cu) M ∧ Below w.heap.size w wr) (fun _ q _ => nu - (intOf q).toNat)
        case atStart => exact ⟨0, none, rfl, rfl, Nat.zero_le _, Lib.hid (fun j p hj => by omega), h2, hb⟩
        case round =>
          clear h2 hb
          obtain ⟨i, bo, rfl, rfl, hi, hP, h2, hb⟩ := hrel
          obtain ⟨ho, hd, hne⟩ := h2
          rw [← HM.out] at ho hd
          by_cases hin : i < nu
          · obtain ⟨p, hp⟩ : ∃ p, M[i]? = some p := ⟨_, List.getElem?_eq_getElem (by rw [← HM.out]; exact hin)⟩
            obtain ⟨gv, rfl, gv1, gv2⟩ := own_some ho (by omega)
            obtain ⟨gu, rfl, gu1, gu2⟩ := own_some hd (by omega)
            have hc2 := ho.cellAt (i * 2 + 1) (by omega)
            have hc3 := hd.cellAt i (by omega)
            rw [(pl_at hp).2] at hc2
            rw [bl_at hp] at hc3
            have HTW : Hid (∀ W, Qu wr W → Two W w.heap.size (.slice (some ⟨gv, 0, none⟩) nu cv) (.slice (some ⟨gu, 0, none⟩) nu cu) M ∧ Below w.heap.size w W) := by
              show ∀ W, _
              intro W hW
              have hbq := hW.below wr.heap.size
              exact ⟨⟨by rw [← HM.out]; exact ownsRow_below ho hbq, by rw [← HM.out]; exact ownsRow_below hd hbq, hne⟩, hb.trans (hbq.mono hb.size)⟩
            have HP := Lib.hid hp
            clear hp
            obtain ⟨⟨pr, pt⟩, pb⟩ := p
            replace hc2 : wr.cell? ⟨gv, i * 2 + 1, none⟩ = some (.string ⟨pt.toArray⟩) := hc2
            replace hc3 : wr.cell? ⟨gu, i, none⟩ = some (.bool pb) := hc3
            cases pb
            · cases bo with
              | none =>
                have HS : Hid (bestP M (i + 1) (some i)) := ⟨by omega, _, HP.out, rfl, fun j q hj hq hq2 => by
                  by_cases e : j = i
                  · subst e; rw [HP.out] at hq; cases hq; exact Nat.le_refl _
                  · have := hP.out j q (by omega) hq
                    rw [hq2] at this; cases this⟩
                have hbest : bestI none = -1 := rfl
                rw [hbest]
                clear hbest
                go_wp2_with fail
                go_quiet (fail)
                obtain ⟨t1, t2⟩ := HTW.out _ ((Qu.refl wr).drewN nq)
                go_wp2
                go_roundw
                case rel => exact ⟨i + 1, some i, rfl, by go_num, by omega, HS, t1, t2⟩
                case measure => simp [intOf]; omega
              | some b =>
                obtain ⟨hb1, q, hq, hqf, hqm⟩ := hP.out
                have hd1 := ho.cellAt (b * 2 + 1) (by omega)
                rw [(pl_at hq).2] at hd1
                have HQ := Lib.hid hq
                have HQM := Lib.hid hqm
                have HQF := Lib.hid hqf
                obtain ⟨⟨qr, qt⟩, qb⟩ := q
                replace hd1 : wr.cell? ⟨gv, b * 2 + 1, none⟩ = some (.string ⟨qt.toArray⟩) := hd1
                have hbits := base_bits HW.out hD.out.1
                have hbp : Bits pt := hbits _ (List.mem_of_getElem? HP.out)
                have hbq : Bits qt := hbits _ (List.mem_of_getElem? HQ.out)
                have hBR := Lib.hid (bef_rk hbp hbq)
                have hcall : ∀ W : World, Calls Tryd.prog 55 #[.string ⟨pt.toArray⟩, .string ⟨qt.toArray⟩] W fun e w' => e = .returned (.bool (bef pt qt)) ∧ w' = W := fun W => l04First_any pt qt W
                have hlt0 : decide ((b : Int) < 0) = false := decide_eq_false (by omega)
                have e6 : (0 : Int) ≤ (b : Int) := by omega
                have e7 : (b : Int) < (nu : Int) := by omega
                clear hq hqf hqm hbits hbp hbq
                have hbest : bestI (some b) = (b : Int) := rfl
                rw [hbest]
                clear hbest
                cases hbf : bef pt qt
                · rw [hbf] at hcall
                  have HBX := Lib.hid hcall
                  have HS : Hid (bestP M (i + 1) (some b)) := ⟨by omega, _, HQ.out, HQF.out, fun j q hj hq hq2 => by
                    by_cases e : j = i
                    · subst e; rw [HP.out] at hq; cases hq
                      exact Nat.le_of_not_lt fun hlt => by rw [hBR.out.2 hlt] at hbf; cases hbf
                    · exact HQM.out j q (by omega) hq hq2⟩
                  clear hcall hbf
                  go_wp2_with fail
                  go_quiet ((go_at_call 55; exact Calls.quiet_of_same (HBX.out _)))
                  obtain ⟨t1, t2⟩ := HTW.out _ ((Qu.refl wr).drewN nq)
                  go_wp2
                  go_roundw
                  case rel => exact ⟨i + 1, some b, rfl, by go_num, by omega, HS, t1, t2⟩
                  case measure => simp [intOf]; omega
                · rw [hbf] at hcall
                  have HBX := Lib.hid hcall
                  have HS : Hid (bestP M (i + 1) (some i)) := ⟨by omega, _, HP.out, rfl, fun j q hj hq hq2 => by
                    by_cases e : j = i
                    · subst e; rw [HP.out] at hq; cases hq; exact Nat.le_refl _
                    · exact Nat.le_trans (Nat.le_of_lt (hBR.out.1 hbf)) (HQM.out j q (by omega) hq hq2)⟩
                  clear hcall hbf
                  go_wp2_with fail
                  go_quiet ((go_at_call 55; exact Calls.quiet_of_same (HBX.out _)))
                  obtain ⟨t1, t2⟩ := HTW.out _ ((Qu.refl wr).drewN nq)
                  go_wp2
                  go_roundw
                  case rel => exact ⟨i + 1, some i, rfl, by go_num, by omega, HS, t1, t2⟩
                  case measure => simp [intOf]; omega
            · have HS : Hid (bestP M (i + 1) bo) := by
                cases bo with
                | none =>
                  show ∀ (j : Nat) (p : Ah), _
                  intro j p hj hp
                  by_cases e : j = i
                  · subst e; rw [HP.out] at hp; cases hp; rfl
                  · exact hP.out j p (by omega) hp
                | some b =>
                  obtain ⟨b1, q, b2, b3, b4⟩ := hP.out
                  exact ⟨by omega, q, b2, b3, fun j q' hj hq hq2 => by
                    by_cases e : j = i
                    · subst e; rw [HP.out] at hq; cases hq; cases hq2
                    · exact b4 j q' (by omega) hq hq2⟩
              go_wp2_with fail
              go_quiet (fail)
              obtain ⟨t1, t2⟩ := HTW.out _ ((Qu.refl wr).drewN nq)
              go_wp2
              go_roundw
              case rel => exact ⟨i + 1, bo, rfl, by go_num, by omega, HS, t1, t2⟩
              case measure => simp [intOf]; omega
          · obtain rfl : nu = i := by omega
            have h2 : Two wr w.heap.size (.slice av nu cv) (.slice au nu cu) M := ⟨by rw [← HM.out]; exact ho, by rw [← HM.out]; exact hd, hne⟩
            have hMl : ∀ (j : Nat) (p : Ah), M[j]? = some p → j < nu := fun j p hj => by have := (List.getElem?_eq_some_iff.1 hj).1; rw [← HM.out] at this; exact this
            cases bo with
            | none =>
              have hbest : bestI none = -1 := rfl
              rw [hbest]
              clear hbest
              have HR : Hid (¬ ∃ t, Way ws [] t) := dij_none hD.out (fun p hp => by
                obtain ⟨j, hj⟩ := List.mem_iff_getElem?.1 hp
                exact hP.out j p (hMl j p hj) hj)
              clear hMl
              go_wp2
              go_ret2
              exact ⟨_, rfl, [], false, rfl, .inr ⟨rfl, rfl, HR.out⟩, hb⟩
            | some b =>
              have hbest : bestI (some b) = (b : Int) := rfl
              rw [hbest]
              clear hbest
              obtain ⟨hbn, x, hx, hxf, hxm⟩ := hP.out
              obtain ⟨gv, rfl, gv1, gv2⟩ := own_some ho (by omega)
              obtain ⟨gu, rfl, gu1, gu2⟩ := own_some hd (by omega)
              have hc1 := ho.cellAt (b * 2) (by omega)
              have hc2 := ho.cellAt (b * 2 + 1) (by omega)
              have hc3 := hd.cellAt b (by omega)
              have hf3 := hd.frozenAt b
              have hguv : gv ≠ gu := fun e => hne gv rfl (by rw [e]; rfl)
              rw [(pl_at hx).1] at hc1
              rw [(pl_at hx).2] at hc2
              rw [bl_at hx] at hc3
              have hst := hd.stored b (.bool true)
              have hoS := own_kne (u := .slice (some ⟨gu, 0, none⟩) nu cu) ho hst.2 (fun g e1 e2 => hne g e2 e1)
              have HXM := Lib.hid hxm
              have hmin : ∀ q ∈ M, q.2 = false → rk x.1.2 ≤ rk q.1.2 := fun q hq hq2 => by
                obtain ⟨j, hj⟩ := List.mem_iff_getElem?.1 hq
                exact hxm j q (hMl j q hj) hj hq2
              have HMIN := Lib.hid hmin
              have HX := Lib.hid hx
              clear hx hxm hMl hmin
              obtain ⟨⟨xr, xt⟩, xb⟩ := x
              replace hxf : xb = false := hxf
              subst hxf
              replace hc1 : wr.cell? ⟨gv, b * 2, none⟩ = some (.string ⟨xr.toArray⟩) := hc1
              replace hc2 : wr.cell? ⟨gv, b * 2 + 1, none⟩ = some (.string ⟨xt.toArray⟩) := hc2
              replace hc3 : wr.cell? ⟨gu, b, none⟩ = some (.bool false) := hc3
              have hlt0 : ¬ (b : Int) < 0 := by omega
              have e6 : (0 : Int) ≤ (b : Int) := by omega
              have e7 : (b : Int) < (nu : Int) := by omega
              have e8 : ((b : Int)).toNat = b := by omega
              have hs1 : (wr.setCell ⟨gu, b, none⟩ (.bool true)).cell? ⟨gv, b * 2, none⟩ = some (.string ⟨xr.toArray⟩) := (hoS.cellAt (b * 2) (by omega)).trans (pl_at HX.out).1
              have hs2 : (wr.setCell ⟨gu, b, none⟩ (.bool true)).cell? ⟨gv, b * 2 + 1, none⟩ = some (.string ⟨xt.toArray⟩) := (hoS.cellAt (b * 2 + 1) (by omega)).trans (pl_at HX.out).2
              have hbS : Below w.heap.size w (wr.setCell ⟨gu, b, none⟩ (.bool true)) := hb.setCell (p := ⟨gu, b, none⟩) gu1 _
              have HOS := Lib.hid hoS
              have HST := Lib.hid hst
              have HBS := Lib.hid hbS
              clear hoS hst hbS
              by_cases he : xr = []
              · have hre : xr.isEmpty = true := by rw [he]; rfl
                have HR : Hid (isMin ws xt) := dij_some hD.out (List.mem_of_getElem? HX.out) he HMIN.out
                clear he
                go_wp2
                go_ret2
                exact ⟨_, rfl, xt, true, rfl, .inl ⟨rfl, HR.out⟩, by first | exact HBS.out.alloc HBS.out.size _ | exact HBS.out⟩
              · have hre := isE_false he
                have HDX := Lib.hid (dij_mark hD.out HX.out he HMIN.out)
                have hxlen : xt.length ≤ 32 * 529 := by
                  have h1 := (hD.out.1.1 _ (List.mem_of_getElem? HX.out)).2
                  have h3 := cnt_le M
                  rw [← HM.out] at h3
                  replace h1 : xt.length ≤ 32 * (cntD M + 1) := h1
                  omega
                have hxr32 : xr.length ≤ 32 := (suf_bits HW.out (way_suf (hD.out.1.1 _ (List.mem_of_getElem? HX.out)).1)).2
                clear he
                have hoA := HOS.out.alloc (.cells #[.string ⟨xr.toArray⟩, .string ⟨xt.toArray⟩] 69)
                have hdA := HST.out.1.alloc (.cells #[.string ⟨xr.toArray⟩, .string ⟨xt.toArray⟩] 69)
                have h2A : Two ((wr.setCell ⟨gu, b, none⟩ (.bool true)).alloc (.cells #[.string ⟨xr.toArray⟩, .string ⟨xt.toArray⟩] 69)) w.heap.size (.slice (some ⟨gv, 0, none⟩) nu cv) (.slice (some ⟨gu, 0, none⟩) nu cu) (M.set b ((xr, xt), true)) := by
                  have e1 : pl (M.set b ((xr, xt), true)) = pl M := pl_set_same HX.out true
                  have e2 : bl (M.set b ((xr, xt), true)) = (bl M).set b (.bool true) := bl_set M b (xr, xt) true
                  refine ⟨?_, ?_, hne⟩
                  · rw [List.length_set, ← HM.out, e1]; exact hoA
                  · rw [List.length_set, ← HM.out, e2]; exact hdA
                have hbA : Below w.heap.size w ((wr.setCell ⟨gu, b, none⟩ (.bool true)).alloc (.cells #[.string ⟨xr.toArray⟩, .string ⟨xt.toArray⟩] 69)) := HBS.out.alloc HBS.out.size _
                have hsz : (wr.setCell ⟨gu, b, none⟩ (.bool true)).heap.size = wr.heap.size := by simp
                have hxa : ((wr.setCell ⟨gu, b, none⟩ (.bool true)).alloc (.cells #[.string ⟨xr.toArray⟩, .string ⟨xt.toArray⟩] 69)).cell? ⟨wr.heap.size, 0, none⟩ = some (.string ⟨xr.toArray⟩) := by rw [← hsz]; go_cell
                have hxb : ((wr.setCell ⟨gu, b, none⟩ (.bool true)).alloc (.cells #[.string ⟨xr.toArray⟩, .string ⟨xt.toArray⟩] 69)).cell? ⟨wr.heap.size, 1, none⟩ = some (.string ⟨xt.toArray⟩) := by rw [← hsz]; go_cell
                have HI := Lib.hid (And.intro h2A (And.intro hbA (And.intro hxa hxb)))
                have HGV := Lib.hid (And.intro gv2 gu2)
                clear h2A hbA hxa hxb hoA hdA hsz ho hd h2 hb
                go_wp2
                obtain ⟨h2A, hbA, hxa, hxb⟩ := HI.out
                have hvX : ∀ g, (Value.slice (some ⟨gv, 0, none⟩) nu cv).ownBlock = some g → g ≠ wr.heap.size := fun g e => own_ne e gv2
                have huX : ∀ g, (Value.slice (some ⟨gu, 0, none⟩) nu cu).ownBlock = some g → g ≠ wr.heap.size := fun g e => own_ne e gu2
                have hXs : wr.heap.size < ((wr.setCell ⟨gu, b, none⟩ (.bool true)).alloc (.cells #[.string ⟨xr.toArray⟩, .string ⟨xt.toArray⟩] 69)).heap.size := by simp
                generalize wr.heap.size = X at *
                obtain ⟨C, hC⟩ : ∃ C, C = cntD M := ⟨_, rfl⟩
                rw [← hC] at HCNT HDX
                have HCM : Hid (C ≤ 528) := by
                  have h3 := cnt_le M
                  rw [← HM.out] at h3
                  show _ ≤ _
                  omega
                clear hC HI HOS HST HBS hc1 hc2 hc3 hf3 hs1 hs2 HMIN HXM hP hD HM HX
                go_loopw [4, 5, 11] (fun y z q wr => ∃ (k : Nat) (M : List Ah), q = .int .i64 (k : Int) ∧ k ≤ n ∧ Two wr w.heap.size y z M ∧ Hid (DX ws M (xr, xt) k ∧ cntD M = C + 1) ∧ wr.cell? ⟨X, 0, none⟩ = some (.string ⟨xr.toArray⟩) ∧ wr.cell? ⟨X, 1, none⟩ = some (.string ⟨xt.toArray⟩) ∧ (∀ g, y.ownBlock = some g → g ≠ X) ∧ (∀ g, z.ownBlock = some g → g ≠ X) ∧ Below w.heap.size w wr ∧ X < wr.heap.size) (fun _ _ q _ => n - (intOf q).toNat)
                case atStart => exact ⟨0, _, rfl, Nat.zero_le _, h2A, Lib.hid ⟨HDX.out.1, HDX.out.2⟩, hxa, hxb, hvX, huX, hbA, hXs⟩
                case round =>
                  clear h2A hbA hxa hxb hvX huX hXs
                  obtain ⟨k, M, rfl, hk, h2, hD, hxa, hxb, hvX, huX, hb, hXs⟩ := hrel
                  by_cases hkn : k < n
                  · obtain ⟨b1, off1, he1, hc1, hbl1⟩ := HC.out k hkn
                    subst he1
                    rw [List.getD_eq_getElem?_getD, wbx_eq] at hc1
                    have hcx := cell_step hc1 hb
                    have hxk := HL.out k
                    have HPB : Hid (M.length ≤ 1000) := by have := base_len HW.out HQ2.out hD.out.1.1; show _ ≤ _; omega
                    obtain ⟨x, hx⟩ : ∃ x, x = wbx ws k := ⟨_, rfl⟩
                    rw [← hx] at hcx hxk
                    have hbx := fun W => HB.out xr x W (by omega) (by omega)
                    have hby := fun W => HB.out x xr W (by omega) (by omega)
                    have HPUT : Hid (∀ nx more M9, fol x xr = some (nx, more) → PutR M (nx, xt ++ more) M9 → DX ws M9 (xr, xt) (k + 1) ∧ cntD M9 = C + 1) := by
                      show ∀ nx more M9, _
                      intro nx more M9 hf hp
                      rw [hx] at hf
                      exact ⟨dx_put HW.out hD.out.1 (by rw [HN.out]; exact hkn) hf hp, by rw [cnt_put hp]; exact hD.out.2⟩
                    have HBE : Hid (∀ W9, Kp wr W9 u4 u5 → Below w.heap.size w W9 ∧ W9.cell? ⟨X, 0, none⟩ = some (.string ⟨xr.toArray⟩) ∧ W9.cell? ⟨X, 1, none⟩ = some (.string ⟨xt.toArray⟩) ∧ X < W9.heap.size) := by
                      show ∀ W9, _
                      intro W9 hk
                      exact ⟨kp_below hb hb.size hk (fun k hk => (h2.1.lt k hk).1) (fun k hk => (h2.2.1.lt k hk).1), kp_cell hk hxa (fun e => hvX X e rfl) (fun e => huX X e rfl), kp_cell hk hxb (fun e => hvX X e rfl) (fun e => huX X e rfl), Nat.lt_of_lt_of_le hXs hk.2.2.2.1⟩
                    have HLI : Hid (∀ (p p' : Value), (∀ g, p.ownBlock = some g → g ≠ X) → Lie wr p p' → ∀ g, p'.ownBlock = some g → g ≠ X) := by
                      show ∀ p p', _
                      intro p p' h1 h3 g hg
                      rcases h3 g hg with h | h
                      · exact h1 g h
                      · omega
                    have HVX := Lib.hid hvX
                    have HUX := Lib.hid huX
                    have HSKIP : Hid (fol x xr = none → DX ws M (xr, xt) (k + 1) ∧ cntD M = C + 1) := by
                      show _ → _
                      intro hf
                      rw [hx] at hf
                      exact ⟨dx_skip hD.out.1 hf, hD.out.2⟩
                    clear hx hc1 hvX huX hD
                    cases hp : x.isPrefixOf xr
                    · rw [hp] at hbx
                      have HBX := Lib.hid hbx
                      cases hp2 : xr.isPrefixOf x
                      · rw [hp2] at hby
                        have HBY := Lib.hid hby
                        have HS := Lib.hid (HSKIP.out (fol_c hp hp2))
                        clear hp hp2 hbx hby
                        go_wp2_with (first
                          | (go_at_call 27; (with_reducible refine (HBX.out _).mono ?_); rintro e w8 ⟨rfl, rfl⟩)
                          | (go_at_call 27; (with_reducible refine (HBY.out _).mono ?_); rintro e w8 ⟨rfl, rfl⟩))
                        go_roundw
                        case rel => exact ⟨k + 1, M, by go_num, by omega, h2, HS, hxa, hxb, HVX.out, HUX.out, hb, hXs⟩
                        case measure => simp [intOf]; omega
                      · rw [hp2] at hby
                        have HBY := Lib.hid hby
                        have HF := Lib.hid (fol_b hp hp2)
                        have hpl := List.IsPrefix.length_le (List.isPrefixOf_iff_prefix.1 hp2)
                        have hcut := run_cut_d x xr.length hpl
                        have hzl : (x.drop xr.length).length ≤ 32 := by rw [List.length_drop]; omega
                        clear hp hp2 hbx hby
                        generalize x.drop xr.length = z at *
                        obtain ⟨y, hy⟩ : ∃ y, y = xt ++ z := ⟨_, rfl⟩
                        have HY := Lib.hid hy
                        have hcat : ∀ W, (Op.stringOp .add ⟨xt.toArray⟩ ⟨z.toArray⟩).run Tryd.prog W = .ok (.string ⟨y.toArray⟩) W := fun W => by rw [HY.out]; exact run_string_add_lists W xt z (by omega) (by omega)
                        clear hy
                        have HPC := Lib.hid (HPT.out wr _ _ M h2 hb.size HPB.out z y)
                        --REG31
                        go_wp2_with (first
                          | (go_at_call 54; refine HPC.out.mono ?_; rintro e W9 ⟨zz, rfl, v9, u9, M9, rfl, hput, h9, hkp, hl1, hl2⟩; obtain ⟨b1, b2, b3, b4⟩ := HBE.out _ hkp; have HS := Lib.hid (HPUT.out _ _ _ HF.out (by rw [← HY.out]; exact hput)); have HV9 := Lib.hid (HLI.out _ _ HVX.out hl1); have HU9 := Lib.hid (HLI.out _ _ HUX.out hl2))
                          | (go_at_call 27; (with_reducible refine (HBX.out _).mono ?_); rintro e w8 ⟨rfl, rfl⟩)
                          | (go_at_call 27; (with_reducible refine (HBY.out _).mono ?_); rintro e w8 ⟨rfl, rfl⟩))
                        go_roundw
                        case rel => exact ⟨k + 1, M9, by go_num, by omega, h9, HS, b2, b3, HV9.out, HU9.out, b1, b4⟩
                        case measure => simp [intOf]; omega
                        --REG31END
                    · rw [hp] at hbx
                      have HBX := Lib.hid hbx
                      have HF := Lib.hid (fol_a hp)
                      have hpl := List.IsPrefix.length_le (List.isPrefixOf_iff_prefix.1 hp)
                      have hcut := run_cut_d xr x.length hpl
                      clear hp hbx hby
                      generalize xr.drop x.length = z at *
                      have HPC := Lib.hid (HPT.out wr.drew _ _ M (h2.below (by go_grown)) hb.size HPB.out z xt)
                      have Y := fun (ops : Array Oper) (o : Oper) (A : Act) (K : Act → World → Prop) (Q : Exit → Act → World → Prop) (E : Prop) => step_callE (P := Tryd.prog) (ops := ops) (o := o) (A := A) (w := wr.drew) (K := K) (Q := Q) (E := E) (fun args w => run_enter Tryd.func54 (by kernel_rfl) (by kernel_rfl) args w) [u4, u5, .agg #[.string ⟨z.toArray⟩, .string ⟨xt.toArray⟩]] [] _ HPC.out
                      --REG28
                      go_wp2_with (go_at_call 27; (with_reducible refine (HBX.out _).mono ?_); rintro e w8 ⟨rfl, rfl⟩)
                      go_region_law ((with_reducible refine Y _ _ _ _ _ _ ?_ (.func 54) [.tmp 121, .tmp 122, .tmp 130] #[64, 65, 69] ?_ ?_ ?_ ?_); rfl; rfl; rfl; rfl; intro zz W9 hR; obtain ⟨v9, u9, M9, rfl, hput, h9, hkp, hl1, hl2⟩ := hR)
                      all_goals
                        obtain ⟨b1, b2, b3, b4⟩ := HBE.out _ hkp
                        have HS := Lib.hid (HPUT.out _ _ _ HF.out (by rw [List.append_nil]; exact hput))
                        have HV9 := Lib.hid (HLI.out _ _ HVX.out hl1)
                        have HU9 := Lib.hid (HLI.out _ _ HUX.out hl2)
                        clear Y HPC hput
                        go_wp2
                        go_roundw
                        case rel => exact ⟨k + 1, M9, by go_num, by omega, h9, HS, b2, b3, HV9.out, HU9.out, b1, b4⟩
                        case measure => simp [intOf]; omega
                      --REG28END
                  · obtain rfl : n = k := by omega
                    have HDI : Hid (DI ws M) := by
                      have h := hD.out.1
                      rw [← HN.out] at h
                      exact dx_end h
                    have HCW : Hid (cntW wr u5 = C + 1) := (cntW_is h2).trans hD.out.2
                    clear hD
                    go_wp2
                    go_roundw
                    case rel => exact ⟨M, h2, HDI, hb⟩
                    case measure =>
                      rw [HCW.out, HCNT.out]
                      have := HCM.out
                      omega

end Go.Proofs.YtcgenmkgdhaejaaDoor
