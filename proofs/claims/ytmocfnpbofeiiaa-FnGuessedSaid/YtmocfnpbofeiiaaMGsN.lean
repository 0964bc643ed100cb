/- Channels drawn from bytes (B10Channel). -/
import Derived.Test.YtmocfnpbofeiiaaMGsC
import Derived.Test.YtmocfnpbofeiiaaMGsL
import Derived.Test.YtmocfnpbofeiiaaMBcC
import Derived.Deep.AppendLies
namespace Go.Proofs.Ytmocfnpbofeiiaa
set_option linter.unusedSimpArgs false
set_option linter.unusedVariables false
open Go.RowKit
open Ieee
theorem own_newsN {W : World} {B : Nat} {T : TypeId} {g n c : Nat} {xs : List Value} (h : W.ownsRow B T 1 (.slice (some ⟨g, 0, none⟩) n c) n xs) : ∀ j u, xs[j]? = some u → W.cell? ((⟨g, 0, none⟩ : Addr).add j) = some u := fun j u hu => by
  have hl : xs.length = n := by have := h.1; omega
  rw [add_atS, Nat.zero_add, h.cellAt j (by have := (List.getElem?_eq_some_iff.1 hu).1; omega)]
  exact hu
theorem StB.pushN {W w2 : World} {g : Nat} {i j : Int} {a : Option Addr} {c : Nat} {ys ns : List Nat} {g2 c2 n : Nat} (hn : ns.length = n) (h : StB W g i j a c ys) (hg : W.grownBy w2 (Value.slice a ys.length c).ownBlock)
    (ho : w2.ownsRow (g + 1) 32 1 (.slice (some ⟨g2, 0, none⟩) (ys.length + n) c2) (ys.length + n) (ys.map (Value.float .f32) ++ ns.map (Value.float .f32))) :
    StB (w2.setCell ⟨g, 2, none⟩ (.slice (some ⟨g2, 0, none⟩) (ys.length + n) c2)) g i j (some ⟨g2, 0, none⟩) c2 (ys ++ ns) := by
  have hl := h.lt
  obtain ⟨h1, h2, h3, h4, h5⟩ := h
  have hu : ∀ k, (Value.slice a ys.length c).ownBlock = some k → k ≠ g := fun k hk => by have := own_grown_lt h5 k hk; omega
  have k1 := cell_grown h1 hg hu
  have k2 := cell_grown h2 hg hu
  have k3 := cell_grown h3 hg hu
  have hz : (ys ++ ns).length = ys.length + n := by rw [List.length_append, hn]
  refine ⟨?_, ?_, ?_, ?_, ?_⟩
  · rw [World.cell?_setCell_other (h := show (⟨g, 2, none⟩ : Addr) ≠ ⟨g, 0, none⟩ by simp)]; exact k1
  · rw [World.cell?_setCell_other (h := show (⟨g, 2, none⟩ : Addr) ≠ ⟨g, 1, none⟩ by simp)]; exact k2
  · rw [hz]; exact World.cell?_setCell_same w2 _ _ k3
  · rw [World.frozen?_setCell]
    rw [World.frozen?_of_block (a := ⟨g, 2, none⟩) (hg.block g hl (fun e => hu g e.symm rfl))]; exact h4
  · rw [hz, List.map_append]
    exact ownsRow_setCell_below ho (show g < g + 1 by omega) _
theorem StB.apart {W W' : World} {g b : Nat} {i j : Int} {a : Option Addr} {c : Nat} {ys : List Nat} (h : StB W g i j a c ys) (hg : W.grownBy W' (some b)) (hb : b < g) : StB W' g i j a c ys := by
  have hl := h.lt
  obtain ⟨h1, h2, h3, h4, h5⟩ := h
  refine ⟨cellKeep h1 hg (by show g ≠ b; omega), cellKeep h2 hg (by show g ≠ b; omega), cellKeep h3 hg (by show g ≠ b; omega), frozenKeep h4 hl hg (by show g ≠ b; omega), ?_⟩
  exact own_apart (u := .slice (some ⟨b, 0, none⟩) 0 0) h5 hg (fun k hk => by simp [Value.ownBlock] at hk; omega)
/-- The law for an append of a row, in a region that draws, to the struct's slice. -/
theorem StB.lawN {W : World} {g : Nat} {i j : Int} {a : Option Addr} {c : Nat} {ys : List Nat} (h : StB W g i j a c ys) (hl : ys.length ≤ 4096) (ns : List Nat) (r n cn : Nat) (hn : ns.length = n) (hn1 : 1 ≤ n) (hn2 : n ≤ 64) (hr : ∀ j u, (ns.map (Value.float .f32))[j]? = some u → W.cell? ((⟨r, 0, none⟩ : Addr).add j) = some u) (H : Nat) (hH : W.heap.size = H)
    {ops : Array Oper} {o : Oper} {A : Act} {K : Act → World → Prop} {Q : Exit → Act → World → Prop} {E : Prop} (hgd : o.guard = none) (s x : Operand)
    (hop : o.op = .call { callee := .builtin .append, args := #[s, x], argTypes := #[25, 25] }) (hs : A.eval s = .slice a ys.length c) (hx : A.eval x = .slice (some ⟨r, 0, none⟩) n cn)
    (hK : ∀ g2 c2 w2, w2.ownsRow (g + 1) 32 1 (.slice (some ⟨g2, 0, none⟩) (ys.length + n) c2) (ys.length + n) (ys.map (Value.float .f32) ++ ns.map (Value.float .f32)) → W.grownBy w2 (Value.slice a ys.length c).ownBlock → w2.cell? ⟨g, 2, none⟩ = some (.slice a ys.length c) → w2.frozen? ⟨g, 2, none⟩ = false → K (A.put o.dst (.slice (some ⟨g2, 0, none⟩) (ys.length + n) c2)) w2) :
    if Region.wanted o (yielded ops A.tmps) = true then Oper.wp Try.prog o A W K Q else E := by
  obtain ⟨i0, hi0, hz0, hz1, hz2⟩ := info_parts info_Float32S
  have hlt := h.lt
  exact step_append_lies W hgd s x 25 hop (g + 1) 32 i0 (.float .f32 0) 1 4 Try.underlying25 hi0 hz0 hz1 hz2 rfl (by omega) (.slice a ys.length c) ys.length _ hs h.2.2.2.2 ⟨r, 0, none⟩ n cn (ns.map (Value.float .f32)) hx (by simp [hn]) hr
    (fun u hu => by obtain ⟨x, _, rfl⟩ := List.mem_map.1 hu; rfl) (by omega) (by unfold maxLen; omega) (by omega) (by omega) H hH (fun g2 c2 w2 q1 q2 _ _ => by
      have hu : ∀ k, (Value.slice a ys.length c).ownBlock = some k → k ≠ g := fun k hk => by have := own_grown_lt h.2.2.2.2 k hk; omega
      exact hK g2 c2 w2 q1 q2 (cell_grown h.2.2.1 q2 hu) ((World.frozen?_of_block (a := ⟨g, 2, none⟩) (q2.block g hlt (fun e => hu g e.symm rfl))).trans h.2.2.2.1))
/-- Rows of counts, one behind the other. -/
def flK (css : List (List Nat)) : List Nat := css.flatMap rowK
theorem flK_snoc (css : List (List Nat)) (ks : List Nat) : flK (css ++ [ks]) = flK css ++ rowK ks := by simp [flK]
theorem flK_len {css : List (List Nat)} {m : Nat} (h : ∀ ks ∈ css, ks.length = m) : (flK css).length = css.length * m := by
  induction css with
  | nil => simp [flK]
  | cons k css ih =>
    have e : (flK (k :: css)).length = (rowK k).length + (flK css).length := by simp [flK]
    rw [e, ih (fun ks hk => h ks (List.mem_cons_of_mem _ hk)), rowK_len, h k (List.mem_cons_self ..), List.length_cons, Nat.add_mul]
    omega
theorem flK_at {m : Nat} : ∀ (css : List (List Nat)), (∀ ks ∈ css, ks.length = m) → ∀ i k, i < css.length → k < m → (flK css)[i * m + k]?.getD 0 = (rowK (css[i]?.getD []))[k]?.getD 0 := by
  intro css
  induction css with
  | nil => intro _ i k hi; simp at hi
  | cons c css ih =>
    intro h i k hi hk
    have hc := h c (List.mem_cons_self ..)
    have e : flK (c :: css) = rowK c ++ flK css := by simp [flK]
    rw [e]
    cases i with
    | zero => rw [Nat.zero_mul, Nat.zero_add, List.getElem?_append_left (by rw [rowK_len]; omega)]; rfl
    | succ i =>
      rw [List.getElem?_append_right (by rw [rowK_len, Nat.add_mul]; omega), rowK_len, hc, show (i + 1) * m + k - m = i * m + k by rw [Nat.add_mul]; omega]
      rw [ih (fun ks hk => h ks (List.mem_cons_of_mem _ hk)) i k (by simpa using hi) hk]
      rfl
theorem chx_of {css : List (List Nat)} {a m : Nat} (hl : css.length = a) (h : ∀ ks ∈ css, Bn ks m) (a1 : 2 ≤ a) (a2 : a ≤ 4) (m1 : 2 ≤ m) (m2 : m ≤ 4) : Chx (flK css) a m (fun i k => psC (css[i]?.getD []) k) := by
  have hlen : ∀ ks ∈ css, ks.length = m := fun ks hk => (h ks hk).len
  have hb : ∀ i, i < a → Bn (css[i]?.getD []) m := fun i hi => by
    rw [List.getElem?_eq_getElem (by omega), Option.getD_some]
    exact h _ (List.getElem_mem _)
  refine ⟨by rw [flK_len hlen, hl], a1, a2, m1, m2, fun i hi k hk => ?_, fun i hi k hk => (hb i hi).low hk, fun i hi => (hb i hi).rw1.one⟩
  rw [flK_at css hlen i k (by omega) hk]
  exact (hb i hi).rw1.el k hk

set_option maxRecDepth 10000 in
set_option maxHeartbeats 8000000 in
theorem B10Channel_any (w : World) (sv : Value) (l : List UInt8) (a m : Nat) (hl : l.length ≤ 1048576) (a1 : 2 ≤ a) (a2 : a ≤ 4) (m1 : 2 ≤ m) (m2 : m ≤ 4) (hv : SlR w sv (byv l)) :
    Calls Try.prog 38 #[sv, .int .i64 (a : Int), .int .i64 (m : Int)] w fun e w' => (∃ (css : List (List Nat)) (u : Value), css.length = a ∧ (∀ ks ∈ css, Bn ks m) ∧ e = .returned (.agg #[.int .i64 (a : Int), .int .i64 (m : Int), u]) ∧ SlR w' u ((flK css).map (Value.float .f32))) ∧ Below w.heap.size w w' := by
  obtain ⟨W0, hW0⟩ : ∃ W0, W0 = w.alloc (.cells #[.int .i64 0, .int .i64 0, .slice none 0 0] 59) := ⟨_, rfl⟩
  have hb0 : Below w.heap.size w W0 := by rw [hW0]; go_grown
  have hsz0 : W0.heap.size = w.heap.size + 1 := by rw [hW0]; simp
  have d0 : W0.cell? ⟨w.heap.size, 0, none⟩ = some (.int .i64 0) := by rw [hW0]; go_cell
  have d1 : W0.cell? ⟨w.heap.size, 1, none⟩ = some (.int .i64 0) := by rw [hW0]; go_cell
  have d2 : W0.cell? ⟨w.heap.size, 2, none⟩ = some (.slice none 0 0) := by rw [hW0]; go_cell
  have x0 : W0.frozen? ⟨w.heap.size, 0, none⟩ = false := by rw [hW0, World.frozen?_alloc_at]; simp
  have x1 : W0.frozen? ⟨w.heap.size, 1, none⟩ = false := by rw [hW0, World.frozen?_alloc_at]; simp
  have x2 : W0.frozen? ⟨w.heap.size, 2, none⟩ = false := by rw [hW0, World.frozen?_alloc_at]; simp
  have HD : Hid (∀ W', Below W0.heap.size W0 W' → (W'.cell? ⟨w.heap.size, 0, none⟩ = some (.int .i64 0) ∧ W'.cell? ⟨w.heap.size, 1, none⟩ = some (.int .i64 0) ∧ W'.cell? ⟨w.heap.size, 2, none⟩ = some (.slice none 0 0)) ∧ W'.frozen? ⟨w.heap.size, 0, none⟩ = false ∧ W'.frozen? ⟨w.heap.size, 1, none⟩ = false ∧ W'.frozen? ⟨w.heap.size, 2, none⟩ = false) := Lib.hid fun W' hg => ⟨⟨cell_step d0 hg, cell_step d1 hg, cell_step d2 hg⟩, (hg.frozen (p := ⟨w.heap.size, 0, none⟩) (by show w.heap.size < _; omega)).trans x0, (hg.frozen (p := ⟨w.heap.size, 1, none⟩) (by show w.heap.size < _; omega)).trans x1, (hg.frozen (p := ⟨w.heap.size, 2, none⟩) (by show w.heap.size < _; omega)).trans x2⟩
  clear d0 d1 d2 x0 x1 x2
  have HF := Lib.hid (from_any W0 sv l (hv.below hb0))
  obtain ⟨B0, hB0⟩ : ∃ B0, B0 = W0.heap.size := ⟨_, rfl⟩
  have HC : Hid (∀ (W : World) (j : Nat), j ≤ 1000 → Src W0 B0 sv j W → Calls Try.prog 70 #[.pointer (some ⟨B0, 0, none⟩), .int .i64 (m : Int)] W fun e w' => (∃ (ks : List Nat) (a : Option Addr) (c : Nat), ks.length = m ∧ (∀ k ∈ ks, 1 ≤ k ∧ k ≤ 6) ∧ e = .returned (.slice a m c) ∧ w'.ownsRow W.heap.size 32 1 (.slice a m c) m ((rowK ks).map (Value.float .f32))) ∧ Src W0 B0 sv (j + m) w' ∧ W.grownBy w' (some B0)) := Lib.hid fun W j hj hs => b10Chances_any W0 W B0 j m sv l hl hj (by omega) (by omega) (hv.below hb0) hs
  obtain ⟨va, vn, vc, rfl, -, -, -, -⟩ := SlR.opened (0 : UInt8) hv
  have HB0 := Lib.hid hb0
  have HSZ0 := Lib.hid hsz0
  clear hv hb0 hsz0
  go_enter Try.func38, Try.ntmps38
  go_upto_region 1 with fail
  rw [← hW0]
  clear hW0
  rw [← hB0] at HF
  have HB00 := Lib.hid hB0
  clear hB0
  go_upto_region 2 with (go_at_call 58; refine HF.out.mono ?_; rintro e w1 ⟨rfl, hs, -⟩)
  obtain ⟨W2, hW2⟩ : ∃ W2, W2 = w1.alloc (.cells #[.int .i64 (a : Int), .int .i64 (m : Int), .slice none 0 0] 59) := ⟨_, rfl⟩
  obtain ⟨G, hG⟩ : ∃ G, G = w1.heap.size := ⟨_, rfl⟩
  have hs4 : W2.heap.size = G + 1 := by rw [hW2, hG]; simp
  have hS0 : StB W2 G a m none 0 (flK []) := by
    refine ⟨?_, ?_, ?_, ?_, rfl, .inl ⟨rfl, rfl⟩⟩
    · rw [hW2, hG]; simp
    · rw [hW2, hG]; simp
    · show World.cell? W2 _ = some (.slice none 0 0)
      rw [hW2, hG]; simp
    · rw [hW2, hG, World.frozen?_alloc_at]; simp
  have b2 : Below w1.heap.size w1 W2 := by rw [hW2]; go_grown
  have hsr := hs.below (b2.mono hs.2.1)
  have hBG : B0 < G := by have := hs.2.1; omega
  have hf2 : Below B0 W0 W2 := by
    have h1 : Below B0 W0 w1 := by rw [HB00.out]; exact hs.2.2.1
    exact h1.trans (b2.mono (by omega))
  go_upto_region 4 with fail
  rw [← hW2, ← hG]
  clear hW2 hG HF hs b2
  have HHC : Hid (∀ (css : List (List Nat)) (ks : List Nat), flK (css ++ [ks]) = flK css ++ rowK ks) := Lib.hid flK_snoc
  have HLN : Hid (∀ css : List (List Nat), css.length ≤ a → (∀ ks ∈ css, Bn ks m) → (flK css).length ≤ 16) := Lib.hid fun css h1 h2 => by
    rw [flK_len (fun ks hk => (h2 ks hk).len)]
    exact Nat.le_trans (Nat.mul_le_mul h1 (Nat.le_refl m)) (Nat.mul_le_mul a2 m2)
  go_loopw [9] (fun q W => ∃ (k : Nat) (css : List (List Nat)), css.length = k ∧ k ≤ a ∧ q = .int .i64 (k : Int) ∧ Hid (∀ ks ∈ css, Bn ks m) ∧ (∃ ad cd, StB W G a m ad cd (flK css)) ∧ Src W0 B0 (.slice va vn vc) (k * m) W ∧ Below B0 W0 W) (fun q _ => a - (intOf q).toNat)
  case atStart => exact ⟨0, [], rfl, Nat.zero_le _, rfl, Lib.hid (fun ks hk => by cases hk), ⟨none, 0, hS0⟩, by rw [Nat.zero_mul]; exact hsr, hf2⟩
  case round =>
    clear hS0 hsr hf2
    obtain ⟨k, css, hcl, hk, rfl, hall, ⟨ad, cd, hS⟩, hsr, hb⟩ := hrel
    by_cases hlt : k < a
    · have hkm : k * m ≤ 16 := Nat.mul_le_mul (show k ≤ 4 by omega) m2
      have hSD := hS.below ((Qu.refl wr).drew.keep)
      have hsD := hsr.below (show Below (B0 + 1) wr wr.drew from (Qu.refl wr).drew.below _)
      have HC1 := Lib.hid (HC.out wr.drew (k * m) (by omega) hsD)
      have hl16 := HLN.out css (by omega) hall.out
      have g2 := hS.2.2.1
      have g2D := hSD.2.2.1
      have HCL := Lib.hid hcl
      obtain ⟨ys, hys⟩ : ∃ ys, ys = flK css := ⟨_, rfl⟩
      rw [← hys] at hS hSD hl16 g2 g2D
      have HYS := Lib.hid hys
      clear hys hcl hsr
      have YA := fun (ops : Array Oper) (o : Oper) (A : Act) (K : Act → World → Prop) (Q : Exit → Act → World → Prop) (E : Prop) => step_callG (P := Try.prog) (ops := ops) (o := o) (A := A) (w := wr.drew) (K := K) (Q := Q) (E := E) (fun args w => run_enter Try.func70 (by kernel_rfl) (by kernel_rfl) args w) [.pointer (some ⟨B0, 0, none⟩), .int .i64 (m : Int)] [] (fun v W' => ∃ (ks : List Nat) (g c : Nat), Bn ks m ∧ v = .slice (some ⟨g, 0, none⟩) m c ∧ W'.ownsRow wr.drew.heap.size 32 1 (.slice (some ⟨g, 0, none⟩) m c) m ((rowK ks).map (Value.float .f32)) ∧ Src W0 B0 (.slice va vn vc) (k * m + m) W' ∧ wr.drew.grownBy W' (some B0)) (HC1.out.mono (fun e w' ⟨⟨ks, a', c, k1, k2, h1, h2⟩, h3, h4⟩ => by
        obtain ⟨g, rfl, _, _⟩ := own_some h2 (by omega)
        exact ⟨_, h1, ks, g, c, ⟨k1, by omega, by omega, k2⟩, rfl, h2, h3, h4⟩))
      have YB := fun (W9 : World) (ks : List Nat) (g c : Nat) (hB : Bn ks m) (h9 : StB W9 G a m ad cd ys) (ho : W9.ownsRow wr.drew.heap.size 32 1 (.slice (some ⟨g, 0, none⟩) m c) m ((rowK ks).map (Value.float .f32))) (ops : Array Oper) (o : Oper) (A : Act) (K : Act → World → Prop) (Q : Exit → Act → World → Prop) (E : Prop) => h9.lawN (by omega) (rowK ks) g m c (by rw [rowK_len, hB.len]) (by omega) (by omega) (own_newsN ho) W9.heap.size rfl (ops := ops) (o := o) (A := A) (K := K) (Q := Q) (E := E)
      go_upto_region 6 with fail
      go_region_law (first
        | ((with_reducible refine YA _ _ _ _ _ _ ?_ (.func 70) [.tmp 22, .tmp 23] #[76, 2] ?_ ?_ ?_ ?_); rfl; rfl; rfl; rfl; rintro zz W9 ⟨ks, g, c, hB, rfl, ho9, hs9, hg9⟩; have h9 := hSD.apart hg9 hBG; have g29 := h9.2.2.1)
        | ((with_reducible refine YB W9 ks g c hB h9 ho9 _ _ _ _ _ _ ?_ (.tmp 21) (.tmp 24) ?_ ?_ ?_ ?_); rfl; rfl; rfl; rfl; intro g2' c2' w2 ho2 hg2 hc2 hf2))
      clear YA YB
      all_goals
        have hbD := hb.drew
        have hb9 : Below B0 W0 W9 := hbD.grown hg9 (by have := hb.size; have := hg9.size; have h5 := hS.lt; show B0 ≤ wr.heap.size; omega) (fun q hq => by injection hq with hq; omega)
        have hS2 := StB.pushN (by rw [rowK_len, hB.len]) h9 hg2 ho2
        have hbF := push_below (u := .slice (some ⟨g2', 0, none⟩) (ys.length + m) c2') hb9 h9 (by omega) hg2
        have hsF := hs9.below (push_below (u := .slice (some ⟨g2', 0, none⟩) (ys.length + m) c2') (Below.refl (B0 + 1) W9) h9 (by omega) hg2)
        have hall2 : Hid (∀ q ∈ css ++ [ks], Bn q m) := Lib.hid fun q hq => by
          rcases List.mem_append.1 hq with h | h
          · exact hall.out q h
          · rw [List.mem_singleton] at h; rw [h]; exact hB
        go_wp2
        go_roundw
        case rel => exact ⟨k + 1, css ++ [ks], by rw [List.length_append, HCL.out]; rfl, by omega, by go_num, hall2, ⟨_, _, by rw [HHC.out, ← HYS.out]; exact hS2⟩, by rw [Nat.add_mul, Nat.one_mul]; exact hsF, hbF⟩
        case measure => simp [intOf]; omega
    · obtain rfl : k = a := by omega
      have hlS := hS.lt
      have HCL := Lib.hid hcl
      have HALL := Lib.hid hall.out
      have hbw : Below W0.heap.size W0 wr := by rw [← HB00.out]; exact hb
      obtain ⟨⟨d0, d1, d2⟩, z0, z1, z2⟩ := HD.out wr hbw
      obtain ⟨s0, s1, s2, s3, s4⟩ := hS
      have hG2 : w.heap.size < G := by have := HSZ0.out; have := HB00.out; omega
      generalize hfl : flK css = zs at *
      have HFL := Lib.hid hfl
      clear hfl hcl hsr hall HD HC HLN HHC
      go_wp2_with fail
      refine bodyPost_ret (v := .agg #[.int .i64 (k : Int), .int .i64 (m : Int), .slice ad zs.length cd]) (by simp [results, Try.results38, go_sem, *]) rfl ?_
      have o1 := ownsRow_setCell_below (a := ⟨w.heap.size, 0, none⟩) s4 (show w.heap.size < G + 1 by omega) (.int .i64 (k : Int))
      have o2 := ownsRow_setCell_below (a := ⟨w.heap.size, 1, none⟩) o1 (show w.heap.size < G + 1 by omega) (.int .i64 (m : Int))
      have o3 := ownsRow_setCell_below (a := ⟨w.heap.size, 2, none⟩) o2 (show w.heap.size < G + 1 by omega) (.slice ad zs.length cd)
      have hbF := HB0.out.trans (hbw.mono (by have := HSZ0.out; omega))
      exact ⟨⟨css, _, HCL.out, HALL.out, rfl, by rw [HFL.out]; exact SlR.own o3⟩, ((hbF.setCell (p := ⟨w.heap.size, 0, none⟩) (Nat.le_refl _) _).setCell (p := ⟨w.heap.size, 1, none⟩) (Nat.le_refl _) _).setCell (p := ⟨w.heap.size, 2, none⟩) (Nat.le_refl _) _⟩

end Go.Proofs.Ytmocfnpbofeiiaa
