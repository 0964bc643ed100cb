/- Errors of tests: the list of types. -/
import Derived.Test.YtmocfnpbofeiiaaMTe2
import Derived.Test.YtmocfnpbofeiiaaMHmx
import Derived.Deep.RegionHeld3
import Derived.Deep.Cut
namespace Go.Proofs.Ytmocfnpbofeiiaa
set_option linter.unusedSimpArgs false
set_option linter.unusedVariables false
open Go.RowKit
open Ieee
/-- A slice of counts that lies at the head of a block. -/
def El (W : World) (u : Value) (xs : List Nat) : Prop := ∃ g c, u = .slice (some ⟨g, 0, none⟩) xs.length c ∧ xs.length ≤ c ∧ c ≤ maxLen ∧ ∀ j x, xs[j]? = some x → W.cell? ⟨g, j, none⟩ = some (nvI x)
theorem El.sl {W : World} {u : Value} {xs : List Nat} (h : El W u xs) : SlR W u (xs.map nvI) := by
  obtain ⟨g, c, rfl, h1, h2, h3⟩ := h
  refine ⟨_, c, by rw [List.length_map], by rw [List.length_map]; exact h1, h2, fun j v hv => ⟨g, 0, rfl, ?_⟩⟩
  rw [List.getElem?_map] at hv
  cases hx : xs[j]? with
  | none => rw [hx] at hv; cases hv
  | some x =>
    rw [hx] at hv
    cases hv
    rw [Nat.zero_add]
    exact h3 j x hx
theorem El.kept {W W' : World} {u : Value} {xs : List Nat} {r : Option Nat} (h : El W u xs) (hg : W.grownBy W' r) (hne : u.ownBlock ≠ r) : El W' u xs := by
  obtain ⟨g, c, rfl, h1, h2, h3⟩ := h
  exact ⟨g, c, rfl, h1, h2, fun j x hx => World.grownBy.cell hg (h3 j x hx) hne⟩
theorem El.below {W W' : World} {u : Value} {xs : List Nat} (h : El W u xs) (hb : Below W.heap.size W W') : El W' u xs := by
  obtain ⟨g, c, rfl, h1, h2, h3⟩ := h
  exact ⟨g, c, rfl, h1, h2, fun j x hx => cell_step (h3 j x hx) hb⟩
/-- A row of slices lies in another block than its slices. -/
theorem El.ne {W : World} {B : Nat} {T : TypeId} {u v : Value} {xs : List Nat} {n : Nat} {vs : List Value} (h : El W u xs) (h1 : 1 ≤ xs.length) (hown : W.ownsRow B T 1 v n vs) {a : Option Addr} {m c : Nat} (h0 : vs[0]? = some (.slice a m c)) : u.ownBlock ≠ v.ownBlock := by
  obtain ⟨g, c', rfl, -, -, h3⟩ := h
  intro e
  have := World.ownsRow.cells hown (show v.ownBlock = some g from e.symm) 0 _ h0
  have h4 := h3 0 (xs[0]'(by omega)) (List.getElem?_eq_getElem (by omega))
  rw [show (⟨g, 0, none⟩ : Addr).add 0 = ⟨g, 0, none⟩ from rfl, h4] at this
  cases this
/-- A row of the call's own of slices of counts. -/
def TyR (W : World) (B : Nat) (v : Value) (l : List (List Nat)) : Prop := ∃ vs, W.ownsRow B 30 1 v l.length vs ∧ ∀ (k : Nat) (xs : List Nat), l[k]? = some xs → ∃ u, vs[k]? = some u ∧ El W u xs
theorem TyR.below {W W' : World} {B : Nat} {v : Value} {l : List (List Nat)} (h : TyR W B v l) (hb : Below W.heap.size W W') : TyR W' B v l := by
  obtain ⟨vs, h1, h2⟩ := h
  exact ⟨vs, ownsRow_below h1 hb, fun k xs hx => by obtain ⟨u, a, b⟩ := h2 k xs hx; exact ⟨u, a, b.below hb⟩⟩
theorem TyR.push {W W3 : World} {B : Nat} {v v' : Value} {l : List (List Nat)} {cs : List Nat} {vs : List Value} (hown : W.ownsRow B 30 1 v l.length vs) (hel : ∀ (k : Nat) (xs : List Nat), l[k]? = some xs → ∃ u, vs[k]? = some u ∧ El W u xs) (hl : ∀ xs ∈ l, 1 ≤ xs.length) (hc : 1 ≤ cs.length) (hm : cs.length ≤ 100)
    (T : TypeId) (hg : ((W.alloc (.cells (cs.map nvI).toArray T)).alloc (.cells #[.slice (some ⟨W.heap.size, 0, none⟩) cs.length cs.length] 30)).grownBy W3 v.ownBlock)
    (hown3 : W3.ownsRow B 30 1 v' (l.length + 1) (vs ++ [.slice (some ⟨W.heap.size, 0, none⟩) cs.length cs.length])) : TyR W3 B v' (l ++ [cs]) := by
  have hvl : vs.length = l.length := by have := hown.1; omega
  have hnew : El ((W.alloc (.cells (cs.map nvI).toArray T)).alloc (.cells #[.slice (some ⟨W.heap.size, 0, none⟩) cs.length cs.length] 30)) (.slice (some ⟨W.heap.size, 0, none⟩) cs.length cs.length) cs := by
    refine ⟨_, _, rfl, Nat.le_refl _, by unfold maxLen; omega, fun j x hx => ?_⟩
    have h0 : (W.alloc (.cells (cs.map nvI).toArray T)).cell? ⟨W.heap.size, j, none⟩ = some (nvI x) := by
      have hj : j < cs.length := (List.getElem?_eq_some_iff.1 hx).1
      rw [List.getElem?_eq_getElem hj] at hx
      simp only [World.cell?]
      rw [heap_alloc_new]
      simp [hj, Option.some.inj hx]
    exact cell_step h0 (by go_grown)
  refine ⟨vs ++ [.slice (some ⟨W.heap.size, 0, none⟩) cs.length cs.length], by rw [List.length_append, List.length_singleton]; exact hown3, fun k xs hx => ?_⟩
  by_cases hk : k < l.length
  · rw [List.getElem?_append_left hk] at hx
    obtain ⟨u, hu, he⟩ := hel k xs hx
    refine ⟨u, by rw [List.getElem?_append_left (by omega)]; exact hu, ?_⟩
    obtain ⟨u0, hu0, he0⟩ := hel 0 (l[0]'(by omega)) (List.getElem?_eq_getElem (by omega))
    obtain ⟨g0, c0, rfl, -⟩ := he0
    have hne := he.ne (hl xs (List.mem_of_getElem? hx)) hown hu0
    exact (((he.kept (World.grownBy_alloc _ _ none) (by obtain ⟨g, c, rfl, -⟩ := he; simp [Value.ownBlock])).kept (World.grownBy_alloc _ _ none) (by obtain ⟨g, c, rfl, -⟩ := he; simp [Value.ownBlock]))).kept hg hne
  · obtain rfl : k = l.length := by
      have := (List.getElem?_eq_some_iff.1 hx).1
      rw [List.length_append, List.length_singleton] at this
      omega
    rw [List.getElem?_append_right (Nat.le_refl _), Nat.sub_self] at hx
    cases hx
    refine ⟨_, by rw [List.getElem?_append_right (by omega), hvl, Nat.sub_self]; rfl, hnew.kept hg ?_⟩
    intro e
    exact absurd (hown.lt _ e.symm).2 (Nat.lt_irrefl _)
/-- What a walk wants of the row at a place. -/
theorem TyR.at {W : World} {B : Nat} {v : Value} {l : List (List Nat)} (h : TyR W B v l) (h1 : 1 ≤ l.length) : ∃ g c, v = .slice (some ⟨g, 0, none⟩) l.length c ∧ l.length ≤ c ∧ ∀ k, k < l.length → ∃ u, W.cell? ⟨g, k, none⟩ = some u ∧ El W u (l[k]?.getD []) := by
  obtain ⟨vs, h2, h3⟩ := h
  obtain ⟨a, c, rfl⟩ := ownsRow_shape h2
  obtain ⟨g, rfl, -, -⟩ := own_some h2 (by omega)
  refine ⟨g, c, rfl, ?_, fun k hk => ?_⟩
  · obtain ⟨a', c', e, hc, -, -⟩ := SlR.own h2
    simp only [Value.slice.injEq] at e
    have : vs.length = l.length := by have := h2.1; omega
    omega
  · obtain ⟨u, hu, he⟩ := h3 k (l[k]) (List.getElem?_eq_getElem hk)
    refine ⟨u, ?_, by rw [List.getElem?_eq_getElem hk]; exact he⟩
    rw [h2.cellAt k (by omega), hu]
theorem info_S53 : (Try.prog.info? 30).map (fun i => (i.zero, i.size, i.bytes)) = some (some (.slice none 0 0), 1, 24) := by kernel_rfl
theorem new_two {W : World} (o : Obj) (u : Value) (T : TypeId) : ∀ j x, [u][j]? = some x → ((W.alloc o).alloc (.cells #[u] T)).cell? ((⟨W.heap.size + 1, 0, none⟩ : Addr).add j) = some x := by
  have := cell_one_new (W.alloc o) u T
  rw [World.size_alloc] at this
  exact this

set_option maxRecDepth 4000 in
set_option maxHeartbeats 4000000 in
theorem types2_any (n : Nat) (w : World) (hn : n ≤ 12) :
    Calls Try.prog 72 #[.int .i64 (n : Int), .int .i64 2] w fun e w' => ∃ v, e = .returned v ∧ TyR w' w.heap.size v (tysL n 2) ∧ Below w.heap.size w w' := by
  obtain ⟨i0, hi0, hz00, hz01, hz02⟩ := info_parts info_S53
  have hown0 : (w.alloc (.cells #[] 30)).ownsRow w.heap.size 30 1 (.slice (some ⟨w.heap.size, 0, none⟩) 0 0) 0 [] := World.ownsRow_made w #[] 0 (Nat.le_refl _) (Nat.zero_le _) rfl
  have hb0 : Below w.heap.size w (w.alloc (.cells #[] 30)) := by go_grown
  have HLE : Hid (∀ i, i ≤ n + 1 → ∀ xs ∈ outT n 2 i, 1 ≤ xs.length) := Lib.hid fun i hi xs hx => by
    have := (ty_of hn (.inl rfl)).2 xs ((outT_pre n 2 i hi).subset hx)
    rw [this.len]; omega
  have HLN : Hid (∀ i, i ≤ n + 1 → (outT n 2 i).length ≤ 91) := Lib.hid fun i hi => Nat.le_trans (outT_pre n 2 i hi).length_le (ty_of hn (.inl rfl)).1
  have HSC : Hid (∀ i, outT n 2 (i + 1) = outT n 2 i ++ [[i, n - i]]) := Lib.hid fun i => by
    rw [outT_succ]; unfold inn; rw [if_pos rfl, if_pos (by omega)]
  have HFI : Hid (tysL n 2 = outT n 2 (n + 1)) := rfl
  go_enter Try.func72, Try.ntmps72
  go_wp2
  go_loopw [5, 11] (fun v i W => ∃ (p : Nat) (vs : List Value), p ≤ n + 1 ∧ i = .int .i64 (p : Int) ∧ W.ownsRow w.heap.size 30 1 v (outT n 2 p).length vs ∧ Hid (∀ (k : Nat) (xs : List Nat), (outT n 2 p)[k]? = some xs → ∃ u, vs[k]? = some u ∧ El W u xs) ∧ Below w.heap.size w W) (fun _ i _ => n + 1 - (intOf i).toNat)
  case atStart => exact ⟨0, [], Nat.zero_le _, rfl, hown0, Lib.hid (fun k xs h => by cases h), hb0⟩
  case round =>
    clear hown0 hb0
    obtain ⟨p, vs, hp, rfl, hown, hel, hb⟩ := hrel
    by_cases hlt : p < n + 1
    · obtain ⟨d, hd⟩ : ∃ d, d = n - p := ⟨_, rfl⟩
      have e1 : (n : Int) - (p : Int) = (d : Int) := by omega
      have HS := HSC.out p
      rw [← hd] at HS
      replace HS := Lib.hid HS
      have hl1 := HLN.out p hp
      have HPU := Lib.hid (fun (W3 : World) (v' : Value) hg h3 => TyR.push (W3 := W3) (v' := v') (cs := [p, d]) hown hel.out (HLE.out p hp) (by simp) (by simp) 2 hg h3)
      have hpn : (p : Int) < (n : Int) + 1 := by omega
      have HD := Lib.hid hd
      clear hd
      generalize (outT n 2 p).length = m at *
      go_wp2_with (at_builtin; refine wpList_append_own _ rfl _ _ 89 rfl w.heap.size 30 i0 (.slice none 0 0) 1 24 Try.underlying89 hi0 hz00 hz01 hz02 rfl (by decide) u5 _ _ rfl ((hown.alloc _).alloc _) ⟨wr.heap.size + 1, 0, none⟩ 1 1 [.slice (some ⟨wr.heap.size, 0, none⟩) 2 2] rfl rfl (new_two _ _ _) (one_oneCell rfl) (by unfold maxLen; omega) (by omega) (by simp only [World.size_alloc]; have := hb.size; omega) ?_; intro v3 w3 hown3 hg3 _)
      have hb3 : Below w.heap.size w w3 := Below.grown ((hb.alloc hb.size _).alloc (by simp only [World.size_alloc]; have := hb.size; omega) _) hg3 (by simp only [World.size_alloc]; have := hb.size; omega) (fun q hq => (hown.lt q hq).1)
      obtain ⟨vs', q1, q2⟩ := HPU.out w3 v3 hg3 hown3
      rw [← HS.out] at q1 q2
      go_roundw
      case rel => exact ⟨p + 1, vs', by omega, by go_num, q1, Lib.hid q2, hb3⟩
      case measure => simp [intOf]; omega
    · obtain rfl : p = n + 1 := by omega
      have hpn : ¬ ((n + 1 : Nat) : Int) < (n : Int) + 1 := by omega
      go_wp2
      go_ret
      exact ⟨_, rfl, by rw [HFI.out]; exact ⟨vs, hown, hel.out⟩, hb⟩

set_option maxRecDepth 4000 in
set_option maxHeartbeats 4000000 in
theorem types3_any (n : Nat) (w : World) (hn : n ≤ 12) :
    Calls Try.prog 72 #[.int .i64 (n : Int), .int .i64 3] w fun e w' => ∃ v, e = .returned v ∧ TyR w' w.heap.size v (tysL n 3) ∧ Below w.heap.size w w' := by
  obtain ⟨i0, hi0, hz00, hz01, hz02⟩ := info_parts info_S53
  have hown0 : (w.alloc (.cells #[] 30)).ownsRow w.heap.size 30 1 (.slice (some ⟨w.heap.size, 0, none⟩) 0 0) 0 [] := World.ownsRow_made w #[] 0 (Nat.le_refl _) (Nat.zero_le _) rfl
  have hb0 : Below w.heap.size w (w.alloc (.cells #[] 30)) := by go_grown
  have HPR : Hid (∀ i k, i ≤ n → k ≤ n - i + 1 → (∀ xs ∈ outT n 3 i ++ inn n 3 i k, 1 ≤ xs.length) ∧ (outT n 3 i ++ inn n 3 i k).length ≤ 91) := Lib.hid fun i k hi hk => by
    have hp := mid_pre n 3 i k hi hk
    obtain ⟨t1, t2⟩ := ty_of hn (.inr rfl : (3 : Nat) = 2 ∨ 3 = 3)
    exact ⟨fun xs hx => by have := t2 xs (hp.subset hx); rw [this.len]; omega, Nat.le_trans hp.length_le t1⟩
  have HSC : Hid (∀ i, outT n 3 (i + 1) = outT n 3 i ++ inn n 3 i (n - i + 1)) := Lib.hid fun i => outT_succ n 3 i
  have HIC : Hid (∀ i k, k ≤ n - i → outT n 3 i ++ inn n 3 i (k + 1) = outT n 3 i ++ inn n 3 i k ++ [[i, k, n - i - k]]) := Lib.hid fun i k hk => by
    rw [inn_succ n 3 i k hk, if_neg (by omega), List.append_assoc]
  have HI0 : Hid (∀ i, outT n 3 i = outT n 3 i ++ inn n 3 i 0) := Lib.hid fun i => by unfold inn; rw [if_neg (by omega)]; simp
  have HFI : Hid (tysL n 3 = outT n 3 (n + 1)) := rfl
  go_enter Try.func72, Try.ntmps72
  go_wp2
  go_loopw [5, 11] (fun v i W => ∃ (p : Nat) (vs : List Value), p ≤ n + 1 ∧ i = .int .i64 (p : Int) ∧ W.ownsRow w.heap.size 30 1 v (outT n 3 p).length vs ∧ Hid (∀ (k : Nat) (xs : List Nat), (outT n 3 p)[k]? = some xs → ∃ u, vs[k]? = some u ∧ El W u xs) ∧ Below w.heap.size w W) (fun _ i _ => n + 1 - (intOf i).toNat)
  case atStart => exact ⟨0, [], Nat.zero_le _, rfl, hown0, Lib.hid (fun k xs h => by cases h), hb0⟩
  case round =>
    clear hown0 hb0
    obtain ⟨p, vs, hp, rfl, hown, hel, hb⟩ := hrel
    by_cases hlt : p < n + 1
    · obtain ⟨d, hd⟩ : ∃ d, d = n - p := ⟨_, rfl⟩
      have e1 : (n : Int) - (p : Int) = (d : Int) := by omega
      have HS := HSC.out p
      have HP2 := HPR.out p
      have HI2 := HIC.out p
      rw [← hd] at HS HP2 HI2
      replace HS := Lib.hid HS
      replace HP2 := Lib.hid HP2
      replace HI2 := Lib.hid HI2
      have hpn : (p : Int) < (n : Int) + 1 := by omega
      have hd12 : d ≤ 12 := by omega
      rw [HI0.out p] at hown hel
      clear hd
      have hpn' : p ≤ n := by omega
      go_wp2_with fail
      go_loopw [5, 28] (fun v i W => ∃ (k : Nat) (vs : List Value), k ≤ d + 1 ∧ i = .int .i64 (k : Int) ∧ W.ownsRow w.heap.size 30 1 v (outT n 3 p ++ inn n 3 p k).length vs ∧ Hid (∀ (j : Nat) (xs : List Nat), (outT n 3 p ++ inn n 3 p k)[j]? = some xs → ∃ u, vs[j]? = some u ∧ El W u xs) ∧ Below w.heap.size w W) (fun _ i _ => d + 1 - (intOf i).toNat)
      case atStart => exact ⟨0, vs, Nat.zero_le _, rfl, hown, hel, hb⟩
      case round =>
        clear hown hel hb
        obtain ⟨k, vs2, hk, rfl, hown, hel, hb⟩ := hrel
        by_cases hlt2 : k < d + 1
        · obtain ⟨d2, hd2⟩ : ∃ d2, d2 = d - k := ⟨_, rfl⟩
          have e2 : (d : Int) - (k : Int) = (d2 : Int) := by omega
          obtain ⟨p1, p2⟩ := HP2.out k hpn' (by omega)
          have HI3 := HI2.out k (by omega)
          rw [← hd2] at HI3
          replace HI3 := Lib.hid HI3
          have HPU := Lib.hid (fun (W3 : World) (v' : Value) hg h3 => TyR.push (W3 := W3) (v' := v') (cs := [p, k, d2]) hown hel.out p1 (by simp) (by simp) 2 hg h3)
          have hkd : (k : Int) < (d : Int) + 1 := by omega
          clear hd2 p1
          generalize (outT n 3 p ++ inn n 3 p k).length = m at *
          go_wp2_with (at_builtin; refine wpList_append_own _ rfl _ _ 89 rfl w.heap.size 30 i0 (.slice none 0 0) 1 24 Try.underlying89 hi0 hz00 hz01 hz02 rfl (by decide) u5 _ _ rfl ((hown.alloc _).alloc _) ⟨wr.heap.size + 1, 0, none⟩ 1 1 [.slice (some ⟨wr.heap.size, 0, none⟩) 3 3] rfl rfl (new_two _ _ _) (one_oneCell rfl) (by unfold maxLen; omega) (by omega) (by simp only [World.size_alloc]; have := hb.size; omega) ?_; intro v3 w3 hown3 hg3 _)
          have hb3 : Below w.heap.size w w3 := Below.grown ((hb.alloc hb.size _).alloc (by simp only [World.size_alloc]; have := hb.size; omega) _) hg3 (by simp only [World.size_alloc]; have := hb.size; omega) (fun q hq => (hown.lt q hq).1)
          obtain ⟨vs', q1, q2⟩ := HPU.out w3 v3 hg3 hown3
          rw [← HI3.out] at q1 q2
          go_roundw
          case rel => exact ⟨k + 1, vs', by omega, by go_num, q1, Lib.hid q2, hb3⟩
          case measure => simp [intOf]; omega
        · obtain rfl : k = d + 1 := by omega
          have hkd : ¬ ((d + 1 : Nat) : Int) < (d : Int) + 1 := by omega
          rw [← HS.out] at hown hel
          go_wp2
          go_roundw
          case rel => exact ⟨p + 1, vs2, by omega, by go_num, hown, hel, hb⟩
          case measure => simp [intOf]; omega
    · obtain rfl : p = n + 1 := by omega
      have hpn : ¬ ((n + 1 : Nat) : Int) < (n : Int) + 1 := by omega
      go_wp2
      go_ret
      exact ⟨_, rfl, by rw [HFI.out]; exact ⟨vs, hown, hel.out⟩, hb⟩

end Go.Proofs.Ytmocfnpbofeiiaa

/- Errors of tests: the program's TestErrors. -/
namespace Go.Proofs.Ytmocfnpbofeiiaa
set_option linter.unusedSimpArgs false
set_option linter.unusedVariables false
open Go.RowKit
open Ieee
theorem tys_pos (n L : Nat) (hL : L = 2 ∨ L = 3) : 1 ≤ (tysL n L).length := by
  unfold tysL
  rw [outT_succ, List.length_append]
  have : 1 ≤ (inn n L n (n - n + 1)).length := by
    rcases hL with rfl | rfl <;> simp [inn]
  omega
theorem teF_take {xs ys : List Nat} {L bar : Nat} {l : List (List Nat)} {k : Nat} (hk : k < l.length) : teF xs ys L bar (l.take (k + 1)) = teS xs ys L bar (teF xs ys L bar (l.take k)) (l[k]?.getD []) := by
  rw [List.take_succ_eq_append_getElem hk, teF_snoc, List.getElem?_eq_getElem hk]; rfl
theorem geF_lt {s b : Nat} (h : FloatKind.f32.format.order s b = some .lt) : geF s b = false := by unfold geF; rw [h]; rfl
theorem geF_eq {s b : Nat} (h : FloatKind.f32.format.order s b = some .eq) : geF s b = true := by unfold geF; rw [h]; rfl
theorem geF_gt {s b : Nat} (h : FloatKind.f32.format.order s b = some .gt) : geF s b = true := by unfold geF; rw [h]; rfl
theorem finB_fnt {x : Nat} (h : finB x = true) : Fnt single x := by
  unfold Fnt
  show rg single x < 2139095040
  rw [rgs]
  exact of_decide_eq_true h
theorem teOk_no1 {xs ys : List Nat} {n : Int} {bar : Nat} (h : abvB xs ys = false) : teOk xs ys n bar = false := by unfold teOk; rw [h]; rfl
theorem outTE_no {xs ys : List Nat} {n : Int} {bar : Nat} (h : teOk xs ys n bar = false) : out_TestErrors xs ys n bar = (0, 0, false) := by unfold out_TestErrors; rw [h]; rfl

/-- The sum of a type's letters: what its round wants. -/
theorem sf_round {n L : Nat} {xs ys cs : List Nat} (hT : Ty n L cs) (hn : n ≤ 12) (hx : Abv xs) (hy : Abv ys) (h1 : xs.length = L) (h2 : ys.length = L) (hL : L ≤ 3) {j : Nat} (hj : j < L) :
    (floatBits .sub .f32 (enB (xs[j]?.getD 0)) (enB (ys[j]?.getD 0))).isSome = true ∧ (floatBits .mul .f32 (floatOfInt .f32 ((cs[j]?.getD 0 : Nat) : Int)) (fA .sub .f32 (enB (xs[j]?.getD 0)) (enB (ys[j]?.getD 0)))).isSome = true ∧ (floatBits .add .f32 (sfP xs ys cs j) (fA .mul .f32 (floatOfInt .f32 ((cs[j]?.getD 0 : Nat) : Int)) (fA .sub .f32 (enB (xs[j]?.getD 0)) (enB (ys[j]?.getD 0))))).isSome = true ∧ cs[j]?.getD 0 ≤ 12 ∧ (0 < xs[j]?.getD 0 ∧ xs[j]?.getD 0 < 2139095040) ∧ (0 < ys[j]?.getD 0 ∧ ys[j]?.getD 0 < 2139095040) := by
  obtain ⟨a, b⟩ := hT.at hj
  have hxj := hx.at (k := j) (by omega)
  have hyj := hy.at (k := j) (by omega)
  obtain ⟨t1, t2, -⟩ := trm_ok (c := cs[j]?.getD 0) hxj hyj (by omega)
  exact ⟨t1, t2, (sfP_bd hT hn hx hy h1 h2 j (by omega) (by omega)).2 hj, by omega, ⟨hxj.1, by omega⟩, ⟨hyj.1, by omega⟩⟩

set_option maxRecDepth 10000 in
set_option maxHeartbeats 8000000 in
theorem impl_TestErrors (w : World) (v : Value) (xs : List Nat) (hv : SlR w v (xs.map (Value.float .f32))) (hx : ∀ x ∈ xs, x < 4294967296) (_ : xs.length ≤ 1048576) (u : Value) (ys : List Nat) (hu : SlR w u (ys.map (Value.float .f32))) (hy : ∀ x ∈ ys, x < 4294967296) (_ : ys.length ≤ 1048576) (n : Int) (hn : I64 n) (bar : Nat) (hbar : bar < 4294967296) :
    Calls Try.prog 22 #[v, u, .int .i64 n, .float .f32 bar] w fun e w' => e = .returned (.tuple #[.float .f32 (out_TestErrors xs ys n bar).1, .float .f32 (out_TestErrors xs ys n bar).2.1, .bool (out_TestErrors xs ys n bar).2.2]) ∧ Below w.heap.size w w' := by
  have hlen : xs.length ≤ 1048576 := by assumption
  have HAB := Lib.hid (areAbove_any v u xs ys w hv hu hx hy)
  have HW1 : Hid (∀ W, Calls Try.prog 60 #[.int .i64 (xs.length : Int), .int .i64 2, .int .i64 3] W fun e w' => e = .returned (.bool (inB (xs.length : Int) 2 3)) ∧ W = w') := Lib.hid fun W => within_any _ 2 3 W
  have HW2 : Hid (∀ W, Calls Try.prog 60 #[.int .i64 n, .int .i64 0, .int .i64 12] W fun e w' => e = .returned (.bool (inB n 0 12)) ∧ W = w') := Lib.hid fun W => within_any _ 0 12 W
  have HFB : Hid (∀ W, Calls Try.prog 69 #[.float .f32 bar] W fun e w' => e = .returned (.bool (finB bar)) ∧ Qu W w') := Lib.hid fun W => implIsFinite_any bar W
  obtain ⟨a1, n1, c1, rfl, hn1, -, -, -⟩ := SlR.opened 0 hv
  obtain ⟨a2, n2, c2, rfl, hn2, -, -, -⟩ := SlR.opened 0 hu
  rw [hn1] at HW1
  cases h1 : abvB xs ys
  · rw [outTE_no (teOk_no1 h1)]
    rw [h1] at HAB
    clear h1 hv hu hx hy hn1 hn2
    go_enter Try.func22, Try.ntmps22
    go_wp2_with (go_at_call 71; refine HAB.out.mono ?_; rintro e w1 ⟨rfl, hb1⟩)
    go_ret3
    exact ⟨rfl, hb1⟩
  · rw [h1] at HAB
    cases h2 : inB (n1 : Int) 2 3
    · have hno : teOk xs ys n bar = false := by
        unfold inB at h2
        have := of_decide_eq_false h2
        unfold teOk
        by_cases h : 2 ≤ xs.length
        · rw [decide_eq_false (show ¬ xs.length ≤ 3 by omega)]; simp
        · rw [decide_eq_false h]; simp
      rw [outTE_no hno]
      rw [h2] at HW1
      clear h1 h2 hv hu hx hy hn1 hn2 hno
      go_enter Try.func22, Try.ntmps22
      go_wp2_with (first
        | (go_at_call 60; refine (HW1.out _).mono ?_; rintro e w' ⟨rfl, rfl⟩)
        | (go_at_call 71; refine HAB.out.mono ?_; rintro e w1 ⟨rfl, hb1⟩))
      go_ret3
      exact ⟨rfl, hb1⟩
    · rw [h2] at HW1
      cases h3 : inB n 0 12
      · have hno : teOk xs ys n bar = false := by unfold teOk; rw [h3]; simp
        rw [outTE_no hno]
        rw [h3] at HW2
        clear h1 h2 h3 hv hu hx hy hn1 hn2 hno
        go_enter Try.func22, Try.ntmps22
        go_upto_region 2 with (first
          | (go_at_call 60; first | (with_reducible refine (HW2.out _).mono ?_; rintro e w' ⟨rfl, rfl⟩) | (with_reducible refine (HW1.out _).mono ?_; rintro e w' ⟨rfl, rfl⟩))
          | (go_at_call 71; refine HAB.out.mono ?_; rintro e w1 ⟨rfl, hb1⟩))
        go_wp2
        go_ret3
        exact ⟨rfl, hb1⟩
      · rw [h3] at HW2
        cases h4 : finB bar
        · have hno : teOk xs ys n bar = false := by unfold teOk; rw [h4]; simp
          rw [outTE_no hno]
          rw [h4] at HFB
          clear h1 h2 h3 h4 hv hu hx hy hn1 hn2 hno
          go_enter Try.func22, Try.ntmps22
          go_upto_region 2 with (first
            | (go_at_call 69; refine (HFB.out _).mono ?_; rintro e w2 ⟨rfl, hq2⟩)
            | (go_at_call 60; first | (with_reducible refine (HW2.out _).mono ?_; rintro e w' ⟨rfl, rfl⟩) | (with_reducible refine (HW1.out _).mono ?_; rintro e w' ⟨rfl, rfl⟩))
            | (go_at_call 71; refine HAB.out.mono ?_; rintro e w1 ⟨rfl, hb1⟩))
          go_wp2
          go_ret3
          exact ⟨rfl, hb1.trans (hq2.keep.mono hb1.size)⟩
        · rw [h4] at HFB
          have hL : xs.length = 2 ∨ xs.length = 3 := by
            unfold inB at h2
            have := of_decide_eq_true h2
            omega
          obtain ⟨m, rfl⟩ : ∃ m : Nat, n = (m : Int) := ⟨n.toNat, by unfold inB at h3; have := of_decide_eq_true h3; omega⟩
          have hm : m ≤ 12 := by unfold inB at h3; have := of_decide_eq_true h3; omega
          have hok : teOk xs ys (m : Int) bar = true := by
            unfold teOk
            rw [h1, h3, h4, decide_eq_true (show 2 ≤ xs.length by omega), decide_eq_true (show xs.length ≤ 3 by omega)]; rfl
          obtain ⟨htw, hax, hay, hly, -⟩ := abvB_abv h1
          obtain ⟨hrx, hry, -⟩ := twB_split htw
          rw [hn1] at hL
          obtain ⟨L, hLd⟩ : ∃ L, L = n1 := ⟨_, rfl⟩
          subst hLd
          have hn2L : L = n2 := by omega
          subst hn2L
          obtain ⟨hN91, hty⟩ := ty_of (n := m) hm hL
          have hNp := tys_pos m L hL
          have HOUT : Hid (out_TestErrors xs ys (m : Int) bar = ((teF xs ys L bar (tysL m L)).1, (teF xs ys L bar (tysL m L)).2, true)) := by
            show _ = _
            unfold out_TestErrors
            rw [hok, Int.toNat_natCast, hn1]; rfl
          have HTY : Hid (∀ W, Calls Try.prog 72 #[.int .i64 (m : Int), .int .i64 (L : Int)] W fun e w' => ∃ v, e = .returned v ∧ TyR w' W.heap.size v (tysL m L) ∧ Below W.heap.size W w') := Lib.hid fun W => by
            rcases hL with rfl | rfl
            · exact types2_any m W hm
            · exact types3_any m W hm
          obtain ⟨l, hl⟩ : ∃ l, l = tysL m L := ⟨_, rfl⟩
          rw [← hl] at HOUT HTY hN91 hty hNp
          have HT := Lib.hid hty
          have hxl : xs.length = L := hn1
          have hyl : ys.length = L := by omega
          obtain ⟨b1, o1, k1, he1, q1, m1, cell1⟩ := sl_cells hv hxl (by omega)
          simp only [Value.slice.injEq] at he1
          obtain ⟨rfl, -, rfl⟩ := he1
          obtain ⟨b2, o2, k2, he2, q2, m2, cell2⟩ := sl_cells hu hyl (by omega)
          simp only [Value.slice.injEq] at he2
          obtain ⟨rfl, -, rfl⟩ := he2
          unfold maxLen at m1 m2
          have HC1 := Lib.hid cell1
          have HC2 := Lib.hid cell2
          have hL3 : L ≤ 3 := by omega
          have HSR : Hid (∀ cs, Ty m L cs → ∀ j, j < L → (floatBits .sub .f32 (enB (xs[j]?.getD 0)) (enB (ys[j]?.getD 0))).isSome = true ∧ (floatBits .mul .f32 (floatOfInt .f32 ((cs[j]?.getD 0 : Nat) : Int)) (fA .sub .f32 (enB (xs[j]?.getD 0)) (enB (ys[j]?.getD 0)))).isSome = true ∧ (floatBits .add .f32 (sfP xs ys cs j) (fA .mul .f32 (floatOfInt .f32 ((cs[j]?.getD 0 : Nat) : Int)) (fA .sub .f32 (enB (xs[j]?.getD 0)) (enB (ys[j]?.getD 0))))).isSome = true ∧ cs[j]?.getD 0 ≤ 12 ∧ (0 < xs[j]?.getD 0 ∧ xs[j]?.getD 0 < 2139095040) ∧ (0 < ys[j]?.getD 0 ∧ ys[j]?.getD 0 < 2139095040)) := Lib.hid fun cs hT j hj => sf_round hT hm hax hay hxl hyl hL3 hj
          have HSS : Hid (∀ cs j, sfP xs ys cs (j + 1) = fA .add .f32 (sfP xs ys cs j) (fA .mul .f32 (floatOfInt .f32 ((cs[j]?.getD 0 : Nat) : Int)) (fA .sub .f32 (enB (xs[j]?.getD 0)) (enB (ys[j]?.getD 0))))) := Lib.hid fun cs j => rfl
          have HS0 : Hid (∀ cs, sfP xs ys cs 0 = 0) := Lib.hid fun cs => rfl
          have HOR : Hid (∀ cs, Ty m L cs → FloatKind.f32.format.order (sfP xs ys cs L) bar = some .lt ∨ FloatKind.f32.format.order (sfP xs ys cs L) bar = some .eq ∨ FloatKind.f32.format.order (sfP xs ys cs L) bar = some .gt) := Lib.hid fun cs hT =>
            ord_ex ((sfP_bd hT hm hax hay hxl hyl L (Nat.le_refl _) hL3).1.fnt (k := .f32) (by show 21 + L ≤ 127; omega)) (finB_fnt h4)
          have HCA : Hid (∀ cs, Ty m L cs → ∀ W u, Below w.heap.size w W → SlR W u (cs.map nvI) → Calls Try.prog 13 #[.slice (some ⟨b1, o1, none⟩) L c1, u] W fun e w' => e = .returned (.tuple #[.float .f32 (chF xs cs L), .bool true]) ∧ Qu W w') := Lib.hid fun cs hT W u hW hu' => implChance_any m L xs cs _ u W hT hm hL hax hxl hrx (hv.below hW) hu'
          have HCB : Hid (∀ cs, Ty m L cs → ∀ W u, Below w.heap.size w W → SlR W u (cs.map nvI) → Calls Try.prog 13 #[.slice (some ⟨b2, o2, none⟩) L c2, u] W fun e w' => e = .returned (.tuple #[.float .f32 (chF ys cs L), .bool true]) ∧ Qu W w') := Lib.hid fun cs hT W u hW hu' => implChance_any m L ys cs _ u W hT hm hL hay hyl hry (hu.below hW) hu'
          have HSO : Hid (∀ k, k < l.length → (floatBits .add .f32 (teF xs ys L bar (l.take k)).1 (chF xs (l[k]?.getD []) L)).isSome = true ∧ (floatBits .add .f32 (teF xs ys L bar (l.take k)).2 (chF ys (l[k]?.getD []) L)).isSome = true) := Lib.hid fun k hk =>
            teF_some hm hax hay hxl hyl (fun c hc => hty c (List.mem_of_mem_take hc)) (by rw [List.length_take]; omega) (hty _ (by rw [List.getElem?_eq_getElem hk]; exact List.getElem_mem hk))
          have HTK : Hid (∀ k, k < l.length → teF xs ys L bar (l.take (k + 1)) = teS xs ys L bar (teF xs ys L bar (l.take k)) (l[k]?.getD [])) := Lib.hid fun k hk => teF_take hk
          have HTYK : Hid (∀ k, k < l.length → Ty m L (l[k]?.getD [])) := Lib.hid fun k hk => hty _ (by rw [List.getElem?_eq_getElem hk]; exact List.getElem_mem hk)
          have HFIN : Hid (finB (teF xs ys L bar l).1 = true ∧ finB (teF xs ys L bar l).2 = true) := Lib.hid (by
            obtain ⟨i1, i2⟩ := teF_bd (bar := bar) hm hax hay hxl hyl l hty hN91
            exact ⟨(fz_fin i1 (by omega)).1, (fz_fin i2 (by omega)).1⟩)
          have HT00 : Hid (teF xs ys L bar (l.take 0) = (0, 0)) := rfl
          have HTN : Hid (l.take l.length = l) := Lib.hid (List.take_length)
          have HBI : Hid (∀ x W, 0 < x → x < 2139095040 → Calls Try.prog 73 #[.float .f32 x] W fun e w' => e = .returned (.float .f32 (enB x)) ∧ ∃ mq, w' = W.drewN mq) := Lib.hid fun x W h0 h => bitsOf_any x W h0 h
          have HIF : Hid (∀ x W, finB x = true → Calls Try.prog 69 #[.float .f32 x] W fun e w' => e = .returned (.bool true) ∧ Qu W w') := Lib.hid fun x W h => by
            have := implIsFinite_any x W
            rw [h] at this
            exact this
          rw [HOUT.out]
          clear hl cell1 cell2 h1 h2 h3 h4 hok htw hax hay hly hrx hry hty hxl hyl hv hu hx hy hn1 hn2 hn hlen
          have hL2 : 2 ≤ L := by omega
          clear hL
          generalize hNl : l.length = N at *
          have HNL := Lib.hid hNl
          clear hNl
          go_enter Try.func22, Try.ntmps22
          go_upto_region 3 with (first
            | (go_at_call 69; refine (HFB.out _).mono ?_; rintro e w2 ⟨rfl, hq2⟩)
            | (go_at_call 60; first | (with_reducible refine (HW2.out _).mono ?_; rintro e w' ⟨rfl, rfl⟩) | (with_reducible refine (HW1.out _).mono ?_; rintro e w' ⟨rfl, rfl⟩))
            | (go_at_call 71; refine HAB.out.mono ?_; rintro e w1 ⟨rfl, hb1⟩))
          have hb2 := hb1.trans (hq2.keep.mono hb1.size)
          clear HAB HW1 HW2 HFB hq2 hb1
          go_wp2_with (go_at_call 72; refine (HTY.out _).mono ?_; rintro e w3 ⟨vt, rfl, hTR, hb3'⟩; have hat := hTR.at (by have := HNL.out; omega); rw [HNL.out] at hat; obtain ⟨gt, ct, hvt, hct, hcT⟩ := hat; subst hvt)
          have hb3 := hb2.trans (hb3'.mono hb2.size)
          have HTC := Lib.hid hcT
          clear HTY hTR hb3' hb2 hcT
          go_loopw [11, 12, 46] (fun a b i W => ∃ k : Nat, k ≤ N ∧ i = .int .i64 (k : Int) ∧ a = .float .f32 (teF xs ys L bar (l.take k)).1 ∧ b = .float .f32 (teF xs ys L bar (l.take k)).2 ∧ Qu w3 W) (fun _ _ i _ => N - (intOf i).toNat)
          case atStart => exact ⟨0, Nat.zero_le _, rfl, rfl, rfl, Qu.refl _⟩
          case round =>
            obtain ⟨k, hk, rfl, rfl, rfl, hq⟩ := hrel
            have hbw := hb3.trans (hq.keep.mono hb3.size)
            by_cases hlt : k < N
            · obtain ⟨wo, rfl⟩ : ∃ x, x = wr := ⟨_, rfl⟩
              obtain ⟨uc, hcu, hel⟩ := HTC.out k hlt
              have hcu' := cell_step hcu hq.keep
              replace hel := hel.below hq.keep
              have hTK := HTYK.out k hlt
              have hso := HSO.out k hlt
              have htk := HTK.out k hlt
              generalize l[k]?.getD [] = cs at *
              have hsl := hel.sl
              obtain ⟨gc, cc, rfl, hcc1, hcc2, hcc3⟩ := hel
              rw [hTK.len] at hcc1 hsl hcu hcu'
              have HTT := Lib.hid hTK
              have HCC : Hid (∀ W, Below wo.heap.size wo W → ∀ j, j < L → W.cell? ⟨gc, j, none⟩ = some (.int .i64 ((cs[j]?.getD 0 : Nat) : Int))) := Lib.hid fun W hW j hj => by
                have hj' : j < cs.length := by rw [hTK.len]; exact hj
                have := hcc3 j cs[j] (List.getElem?_eq_getElem hj')
                rw [List.getElem?_eq_getElem hj']
                exact cell_step this hW
              unfold maxLen at hcc2
              have hso1 := hso.1
              have hso2 := hso.2
              have HTKK := Lib.hid htk
              have HSL := Lib.hid hsl
              have HSRK := Lib.hid (HSR.out cs hTK)
              have HORK := Lib.hid (HOR.out cs hTK)
              clear hcu hso htk hsl hcc3 hTK
              obtain ⟨M, hM⟩ : ∃ M, M = (teF xs ys L bar (l.take k)).1 := ⟨_, rfl⟩
              obtain ⟨T, hT⟩ : ∃ T, T = (teF xs ys L bar (l.take k)).2 := ⟨_, rfl⟩
              rw [← hM] at hso1 ⊢
              rw [← hT] at hso2 ⊢
              have HM := Lib.hid hM
              have HTT2 := Lib.hid hT
              clear hM hT
              go_wp2_with fail
              go_loopw [15, 52] (fun s i W => ∃ j : Nat, j ≤ L ∧ i = .int .i64 (j : Int) ∧ s = .float .f32 (sfP xs ys cs j) ∧ Qu wo W) (fun _ i _ => L - (intOf i).toNat)
              case atStart => exact ⟨0, Nat.zero_le _, rfl, by rw [HS0.out], Qu.refl _⟩
              case round =>
                obtain ⟨j, hj, rfl, rfl, hq4⟩ := hrel
                by_cases hlt2 : j < L
                · have hbj := hbw.trans (hq4.keep.mono hbw.size)
                  have d1 := HC1.out wr hbj j hlt2
                  have d2 := HC2.out wr hbj j hlt2
                  have d3 := HCC.out wr hq4.keep j hlt2
                  obtain ⟨r1, r2, r3, r4, ⟨r5, r6⟩, r7, r8⟩ := HSRK.out j hlt2
                  have HSJ := Lib.hid (HSS.out cs j)
                  have hB1 : Hid (∀ W, Calls Try.prog 73 #[.float .f32 (xs[j]?.getD 0)] W fun e w' => e = .returned (.float .f32 (enB (xs[j]?.getD 0))) ∧ ∃ mq, w' = W.drewN mq) := Lib.hid fun W => HBI.out _ W r5 r6
                  have hB2 : Hid (∀ W, Calls Try.prog 73 #[.float .f32 (ys[j]?.getD 0)] W fun e w' => e = .returned (.float .f32 (enB (ys[j]?.getD 0))) ∧ ∃ mq, w' = W.drewN mq) := Lib.hid fun W => HBI.out _ W r7 r8
                  clear r5 r6 r7 r8 hbj
                  generalize xs[j]?.getD 0 = z at *
                  generalize ys[j]?.getD 0 = y at *
                  generalize cs[j]?.getD 0 = cj at *
                  generalize sfP xs ys cs j = S at *
                  generalize enB z = la at *
                  generalize enB y = lb at *
                  go_wp2_with fail
                  go_quiet (first | (go_at_call 73; first | (with_reducible exact Calls.quiet_of (hB1.out _)) | (with_reducible exact Calls.quiet_of (hB2.out _))))
                  go_wp2
                  go_roundw
                  case rel => exact ⟨j + 1, by omega, by go_num, by rw [HSJ.out], hq4.drewN _⟩
                  case measure => simp [intOf]; omega
                · obtain rfl : j = L := by omega
                  rcases HORK.out with ho | ho | ho
                  · have hg := geF_lt ho
                    have HNX : Hid (teF xs ys j bar (l.take (k + 1)) = (fA .add .f32 M (chF xs cs j), T)) := by
                      show _ = _
                      rw [HTKK.out]; unfold teS; rw [hg, if_neg (by simp), HM.out, HTT2.out]
                    have HCH := Lib.hid (HCA.out cs HTT.out wr _ (hbw.trans (hq4.keep.mono hbw.size)) (HSL.out.below hq4.keep))
                    clear hg
                    generalize chF xs cs j = X1 at *
                    generalize sfP xs ys cs j = S at *
                    go_wp2_with (go_at_call 13; refine HCH.out.mono ?_; rintro e w5 ⟨rfl, hq5⟩)
                    go_roundw
                    case rel => exact ⟨k + 1, by omega, by go_num, by rw [HNX.out], by rw [HNX.out], hq.trans (hq4.trans hq5)⟩
                    case measure => simp [intOf]; omega
                  · have hg := geF_eq ho
                    have HNX : Hid (teF xs ys j bar (l.take (k + 1)) = (M, fA .add .f32 T (chF ys cs j))) := by
                      show _ = _
                      rw [HTKK.out]; unfold teS; rw [hg, if_pos rfl, HM.out, HTT2.out]
                    have HCH := Lib.hid (HCB.out cs HTT.out wr _ (hbw.trans (hq4.keep.mono hbw.size)) (HSL.out.below hq4.keep))
                    clear hg
                    generalize chF ys cs j = X1 at *
                    generalize sfP xs ys cs j = S at *
                    go_wp2_with (go_at_call 13; refine HCH.out.mono ?_; rintro e w5 ⟨rfl, hq5⟩)
                    go_roundw
                    case rel => exact ⟨k + 1, by omega, by go_num, by rw [HNX.out], by rw [HNX.out], hq.trans (hq4.trans hq5)⟩
                    case measure => simp [intOf]; omega
                  · have hg := geF_gt ho
                    have HNX : Hid (teF xs ys j bar (l.take (k + 1)) = (M, fA .add .f32 T (chF ys cs j))) := by
                      show _ = _
                      rw [HTKK.out]; unfold teS; rw [hg, if_pos rfl, HM.out, HTT2.out]
                    have HCH := Lib.hid (HCB.out cs HTT.out wr _ (hbw.trans (hq4.keep.mono hbw.size)) (HSL.out.below hq4.keep))
                    clear hg
                    generalize chF ys cs j = X1 at *
                    generalize sfP xs ys cs j = S at *
                    go_wp2_with (go_at_call 13; refine HCH.out.mono ?_; rintro e w5 ⟨rfl, hq5⟩)
                    go_roundw
                    case rel => exact ⟨k + 1, by omega, by go_num, by rw [HNX.out], by rw [HNX.out], hq.trans (hq4.trans hq5)⟩
                    case measure => simp [intOf]; omega
            · obtain rfl : k = N := by omega
              rw [HTN.out]
              obtain ⟨f1, f2⟩ := HFIN.out
              have HI1 := Lib.hid (fun W => HIF.out _ W f1)
              have HI2 := Lib.hid (fun W => HIF.out _ W f2)
              clear f1 f2 HFIN
              obtain ⟨M, hM⟩ : ∃ M, M = (teF xs ys L bar l).1 := ⟨_, rfl⟩
              obtain ⟨T, hT⟩ : ∃ T, T = (teF xs ys L bar l).2 := ⟨_, rfl⟩
              rw [← hM] at HI1 ⊢
              rw [← hT] at HI2 ⊢
              have HM := Lib.hid hM
              have HT2 := Lib.hid hT
              clear hM hT
              go_wp2_with (go_at_call 69; first | (with_reducible refine (HI1.out _).mono ?_; rintro e w5 ⟨rfl, hq5⟩) | (with_reducible refine (HI2.out _).mono ?_; rintro e w6 ⟨rfl, hq6⟩))
              go_ret3
              exact ⟨by rw [← HM.out, ← HT2.out]; rfl, hbw.trans (((hq5.trans hq6).keep).mono hbw.size)⟩

end Go.Proofs.Ytmocfnpbofeiiaa
