/- Errors of tests: the list of types. -/
import Derived.Test.YtmocfnpbofeiiaaMTe2
import Derived.Test.YtmocfnpbofeiiaaMHmx
namespace Go.Proofs.Ytmocfnpbofeiiaa
set_option linter.unusedSimpArgs false
set_option linter.unusedVariables false
open Go.RowKit
open Ieee
/-- A slice of counts that lies at the head of a block. -/
def El (W : World) (u : Value) (xs : List Nat) : Prop := ∃ g c, u = .slice (some ⟨g, 0, none⟩) xs.length c ∧ xs.length ≤ c ∧ c ≤ maxLen ∧ ∀ j x, xs[j]? = some x → W.cell? ⟨g, j, none⟩ = some (nvI x)
theorem El.sl {W : World} {u : Value} {xs : List Nat} (h : El W u xs) : SlR W u (xs.map nvI) := by
  obtain ⟨g, c, rfl, h1, h2, h3⟩ := h
  refine ⟨_, c, by rw [List.length_map], by rw [List.length_map]; exact h1, h2, fun j v hv => ⟨g, 0, rfl, ?_⟩⟩
  rw [List.getElem?_map] at hv
  cases hx : xs[j]? with
  | none => rw [hx] at hv; cases hv
  | some x =>
    rw [hx] at hv
    cases hv
    rw [Nat.zero_add]
    exact h3 j x hx
theorem El.kept {W W' : World} {u : Value} {xs : List Nat} {r : Option Nat} (h : El W u xs) (hg : W.grownBy W' r) (hne : u.ownBlock ≠ r) : El W' u xs := by
  obtain ⟨g, c, rfl, h1, h2, h3⟩ := h
  exact ⟨g, c, rfl, h1, h2, fun j x hx => World.grownBy.cell hg (h3 j x hx) hne⟩
theorem El.below {W W' : World} {u : Value} {xs : List Nat} (h : El W u xs) (hb : Below W.heap.size W W') : El W' u xs := by
  obtain ⟨g, c, rfl, h1, h2, h3⟩ := h
  exact ⟨g, c, rfl, h1, h2, fun j x hx => cell_step (h3 j x hx) hb⟩
/-- A row of slices lies in another block than its slices. -/
theorem El.ne {W : World} {B : Nat} {T : TypeId} {u v : Value} {xs : List Nat} {n : Nat} {vs : List Value} (h : El W u xs) (h1 : 1 ≤ xs.length) (hown : W.ownsRow B T 1 v n vs) {a : Option Addr} {m c : Nat} (h0 : vs[0]? = some (.slice a m c)) : u.ownBlock ≠ v.ownBlock := by
  obtain ⟨g, c', rfl, -, -, h3⟩ := h
  intro e
  have := World.ownsRow.cells hown (show v.ownBlock = some g from e.symm) 0 _ h0
  have h4 := h3 0 (xs[0]'(by omega)) (List.getElem?_eq_getElem (by omega))
  rw [show (⟨g, 0, none⟩ : Addr).add 0 = ⟨g, 0, none⟩ from rfl, h4] at this
  cases this
/-- A row of the call's own of slices of counts. -/
def TyR (W : World) (B : Nat) (v : Value) (l : List (List Nat)) : Prop := ∃ vs, W.ownsRow B 30 1 v l.length vs ∧ ∀ (k : Nat) (xs : List Nat), l[k]? = some xs → ∃ u, vs[k]? = some u ∧ El W u xs
theorem TyR.below {W W' : World} {B : Nat} {v : Value} {l : List (List Nat)} (h : TyR W B v l) (hb : Below W.heap.size W W') : TyR W' B v l := by
  obtain ⟨vs, h1, h2⟩ := h
  exact ⟨vs, ownsRow_below h1 hb, fun k xs hx => by obtain ⟨u, a, b⟩ := h2 k xs hx; exact ⟨u, a, b.below hb⟩⟩
theorem TyR.push {W W3 : World} {B : Nat} {v v' : Value} {l : List (List Nat)} {cs : List Nat} {vs : List Value} (hown : W.ownsRow B 30 1 v l.length vs) (hel : ∀ (k : Nat) (xs : List Nat), l[k]? = some xs → ∃ u, vs[k]? = some u ∧ El W u xs) (hl : ∀ xs ∈ l, 1 ≤ xs.length) (hc : 1 ≤ cs.length) (hm : cs.length ≤ 100)
    (T : TypeId) (hg : ((W.alloc (.cells (cs.map nvI).toArray T)).alloc (.cells #[.slice (some ⟨W.heap.size, 0, none⟩) cs.length cs.length] 30)).grownBy W3 v.ownBlock)
    (hown3 : W3.ownsRow B 30 1 v' (l.length + 1) (vs ++ [.slice (some ⟨W.heap.size, 0, none⟩) cs.length cs.length])) : TyR W3 B v' (l ++ [cs]) := by
  have hvl : vs.length = l.length := by have := hown.1; omega
  have hnew : El ((W.alloc (.cells (cs.map nvI).toArray T)).alloc (.cells #[.slice (some ⟨W.heap.size, 0, none⟩) cs.length cs.length] 30)) (.slice (some ⟨W.heap.size, 0, none⟩) cs.length cs.length) cs := by
    refine ⟨_, _, rfl, Nat.le_refl _, by unfold maxLen; omega, fun j x hx => ?_⟩
    have h0 : (W.alloc (.cells (cs.map nvI).toArray T)).cell? ⟨W.heap.size, j, none⟩ = some (nvI x) := by
      have hj : j < cs.length := (List.getElem?_eq_some_iff.1 hx).1
      rw [List.getElem?_eq_getElem hj] at hx
      simp only [World.cell?]
      rw [heap_alloc_new]
      simp [hj, Option.some.inj hx]
    exact cell_step h0 (by go_grown)
  refine ⟨vs ++ [.slice (some ⟨W.heap.size, 0, none⟩) cs.length cs.length], by rw [List.length_append, List.length_singleton]; exact hown3, fun k xs hx => ?_⟩
  by_cases hk : k < l.length
  · rw [List.getElem?_append_left hk] at hx
    obtain ⟨u, hu, he⟩ := hel k xs hx
    refine ⟨u, by rw [List.getElem?_append_left (by omega)]; exact hu, ?_⟩
    obtain ⟨u0, hu0, he0⟩ := hel 0 (l[0]'(by omega)) (List.getElem?_eq_getElem (by omega))
    obtain ⟨g0, c0, rfl, -⟩ := he0
    have hne := he.ne (hl xs (List.mem_of_getElem? hx)) hown hu0
    exact (((he.kept (World.grownBy_alloc _ _ none) (by obtain ⟨g, c, rfl, -⟩ := he; simp [Value.ownBlock])).kept (World.grownBy_alloc _ _ none) (by obtain ⟨g, c, rfl, -⟩ := he; simp [Value.ownBlock]))).kept hg hne
  · obtain rfl : k = l.length := by
      have := (List.getElem?_eq_some_iff.1 hx).1
      rw [List.length_append, List.length_singleton] at this
      omega
    rw [List.getElem?_append_right (Nat.le_refl _), Nat.sub_self] at hx
    cases hx
    refine ⟨_, by rw [List.getElem?_append_right (by omega), hvl, Nat.sub_self]; rfl, hnew.kept hg ?_⟩
    intro e
    exact absurd (hown.lt _ e.symm).2 (Nat.lt_irrefl _)
/-- What a walk wants of the row at a place. -/
theorem TyR.at {W : World} {B : Nat} {v : Value} {l : List (List Nat)} (h : TyR W B v l) (h1 : 1 ≤ l.length) : ∃ g c, v = .slice (some ⟨g, 0, none⟩) l.length c ∧ l.length ≤ c ∧ ∀ k, k < l.length → ∃ u, W.cell? ⟨g, k, none⟩ = some u ∧ El W u (l[k]?.getD []) := by
  obtain ⟨vs, h2, h3⟩ := h
  obtain ⟨a, c, rfl⟩ := ownsRow_shape h2
  obtain ⟨g, rfl, -, -⟩ := own_some h2 (by omega)
  refine ⟨g, c, rfl, ?_, fun k hk => ?_⟩
  · obtain ⟨a', c', e, hc, -, -⟩ := SlR.own h2
    simp only [Value.slice.injEq] at e
    have : vs.length = l.length := by have := h2.1; omega
    omega
  · obtain ⟨u, hu, he⟩ := h3 k (l[k]) (List.getElem?_eq_getElem hk)
    refine ⟨u, ?_, by rw [List.getElem?_eq_getElem hk]; exact he⟩
    rw [h2.cellAt k (by omega), hu]
theorem info_S53 : (Try.prog.info? 30).map (fun i => (i.zero, i.size, i.bytes)) = some (some (.slice none 0 0), 1, 24) := by kernel_rfl
theorem new_two {W : World} (o : Obj) (u : Value) (T : TypeId) : ∀ j x, [u][j]? = some x → ((W.alloc o).alloc (.cells #[u] T)).cell? ((⟨W.heap.size + 1, 0, none⟩ : Addr).add j) = some x := by
  have := cell_one_new (W.alloc o) u T
  rw [World.size_alloc] at this
  exact this

set_option maxRecDepth 4000 in
set_option maxHeartbeats 4000000 in
theorem types2_any (n : Nat) (w : World) (hn : n ≤ 12) :
    Calls Try.prog 72 #[.int .i64 (n : Int), .int .i64 2] w fun e w' => ∃ v, e = .returned v ∧ TyR w' w.heap.size v (tysL n 2) ∧ Below w.heap.size w w' := by
  obtain ⟨i0, hi0, hz00, hz01, hz02⟩ := info_parts info_S53
  have hown0 : (w.alloc (.cells #[] 30)).ownsRow w.heap.size 30 1 (.slice (some ⟨w.heap.size, 0, none⟩) 0 0) 0 [] := World.ownsRow_made w #[] 0 (Nat.le_refl _) (Nat.zero_le _) rfl
  have hb0 : Below w.heap.size w (w.alloc (.cells #[] 30)) := by go_grown
  have HLE : Hid (∀ i, i ≤ n + 1 → ∀ xs ∈ outT n 2 i, 1 ≤ xs.length) := Lib.hid fun i hi xs hx => by
    have := (ty_of hn (.inl rfl)).2 xs ((outT_pre n 2 i hi).subset hx)
    rw [this.len]; omega
  have HLN : Hid (∀ i, i ≤ n + 1 → (outT n 2 i).length ≤ 91) := Lib.hid fun i hi => Nat.le_trans (outT_pre n 2 i hi).length_le (ty_of hn (.inl rfl)).1
  have HSC : Hid (∀ i, outT n 2 (i + 1) = outT n 2 i ++ [[i, n - i]]) := Lib.hid fun i => by
    rw [outT_succ]; unfold inn; rw [if_pos rfl, if_pos (by omega)]
  have HFI : Hid (tysL n 2 = outT n 2 (n + 1)) := rfl
  go_enter Try.func72, Try.ntmps72
  go_wp2
  go_loopw [5, 11] (fun v i W => ∃ (p : Nat) (vs : List Value), p ≤ n + 1 ∧ i = .int .i64 (p : Int) ∧ W.ownsRow w.heap.size 30 1 v (outT n 2 p).length vs ∧ Hid (∀ (k : Nat) (xs : List Nat), (outT n 2 p)[k]? = some xs → ∃ u, vs[k]? = some u ∧ El W u xs) ∧ Below w.heap.size w W) (fun _ i _ => n + 1 - (intOf i).toNat)
  case atStart => exact ⟨0, [], Nat.zero_le _, rfl, hown0, Lib.hid (fun k xs h => by cases h), hb0⟩
  case round =>
    clear hown0 hb0
    obtain ⟨p, vs, hp, rfl, hown, hel, hb⟩ := hrel
    by_cases hlt : p < n + 1
    · obtain ⟨d, hd⟩ : ∃ d, d = n - p := ⟨_, rfl⟩
      have e1 : (n : Int) - (p : Int) = (d : Int) := by omega
      have HS := HSC.out p
      rw [← hd] at HS
      replace HS := Lib.hid HS
      have hl1 := HLN.out p hp
      have HPU := Lib.hid (fun (W3 : World) (v' : Value) hg h3 => TyR.push (W3 := W3) (v' := v') (cs := [p, d]) hown hel.out (HLE.out p hp) (by simp) (by simp) 2 hg h3)
      have hpn : (p : Int) < (n : Int) + 1 := by omega
      have HD := Lib.hid hd
      clear hd
      generalize (outT n 2 p).length = m at *
      go_wp2_with (at_builtin; refine wpList_append_own _ rfl _ _ 89 rfl w.heap.size 30 i0 (.slice none 0 0) 1 24 Try.underlying89 hi0 hz00 hz01 hz02 rfl (by decide) u5 _ _ rfl ((hown.alloc _).alloc _) ⟨wr.heap.size + 1, 0, none⟩ 1 1 [.slice (some ⟨wr.heap.size, 0, none⟩) 2 2] rfl rfl (new_two _ _ _) (one_oneCell rfl) (by unfold maxLen; omega) (by omega) (by simp only [World.size_alloc]; have := hb.size; omega) ?_; intro v3 w3 hown3 hg3 _)
      have hb3 : Below w.heap.size w w3 := Below.grown ((hb.alloc hb.size _).alloc (by simp only [World.size_alloc]; have := hb.size; omega) _) hg3 (by simp only [World.size_alloc]; have := hb.size; omega) (fun q hq => (hown.lt q hq).1)
      obtain ⟨vs', q1, q2⟩ := HPU.out w3 v3 hg3 hown3
      rw [← HS.out] at q1 q2
      go_roundw
      case rel => exact ⟨p + 1, vs', by omega, by go_num, q1, Lib.hid q2, hb3⟩
      case measure => simp [intOf]; omega
    · obtain rfl : p = n + 1 := by omega
      have hpn : ¬ ((n + 1 : Nat) : Int) < (n : Int) + 1 := by omega
      go_wp2
      go_ret
      exact ⟨_, rfl, by rw [HFI.out]; exact ⟨vs, hown, hel.out⟩, hb⟩

set_option maxRecDepth 4000 in
set_option maxHeartbeats 4000000 in
theorem types3_any (n : Nat) (w : World) (hn : n ≤ 12) :
    Calls Try.prog 72 #[.int .i64 (n : Int), .int .i64 3] w fun e w' => ∃ v, e = .returned v ∧ TyR w' w.heap.size v (tysL n 3) ∧ Below w.heap.size w w' := by
  obtain ⟨i0, hi0, hz00, hz01, hz02⟩ := info_parts info_S53
  have hown0 : (w.alloc (.cells #[] 30)).ownsRow w.heap.size 30 1 (.slice (some ⟨w.heap.size, 0, none⟩) 0 0) 0 [] := World.ownsRow_made w #[] 0 (Nat.le_refl _) (Nat.zero_le _) rfl
  have hb0 : Below w.heap.size w (w.alloc (.cells #[] 30)) := by go_grown
  have HPR : Hid (∀ i k, i ≤ n → k ≤ n - i + 1 → (∀ xs ∈ outT n 3 i ++ inn n 3 i k, 1 ≤ xs.length) ∧ (outT n 3 i ++ inn n 3 i k).length ≤ 91) := Lib.hid fun i k hi hk => by
    have hp := mid_pre n 3 i k hi hk
    obtain ⟨t1, t2⟩ := ty_of hn (.inr rfl : (3 : Nat) = 2 ∨ 3 = 3)
    exact ⟨fun xs hx => by have := t2 xs (hp.subset hx); rw [this.len]; omega, Nat.le_trans hp.length_le t1⟩
  have HSC : Hid (∀ i, outT n 3 (i + 1) = outT n 3 i ++ inn n 3 i (n - i + 1)) := Lib.hid fun i => outT_succ n 3 i
  have HIC : Hid (∀ i k, k ≤ n - i → outT n 3 i ++ inn n 3 i (k + 1) = outT n 3 i ++ inn n 3 i k ++ [[i, k, n - i - k]]) := Lib.hid fun i k hk => by
    rw [inn_succ n 3 i k hk, if_neg (by omega), List.append_assoc]
  have HI0 : Hid (∀ i, outT n 3 i = outT n 3 i ++ inn n 3 i 0) := Lib.hid fun i => by unfold inn; rw [if_neg (by omega)]; simp
  have HFI : Hid (tysL n 3 = outT n 3 (n + 1)) := rfl
  go_enter Try.func72, Try.ntmps72
  go_wp2
  go_loopw [5, 11] (fun v i W => ∃ (p : Nat) (vs : List Value), p ≤ n + 1 ∧ i = .int .i64 (p : Int) ∧ W.ownsRow w.heap.size 30 1 v (outT n 3 p).length vs ∧ Hid (∀ (k : Nat) (xs : List Nat), (outT n 3 p)[k]? = some xs → ∃ u, vs[k]? = some u ∧ El W u xs) ∧ Below w.heap.size w W) (fun _ i _ => n + 1 - (intOf i).toNat)
  case atStart => exact ⟨0, [], Nat.zero_le _, rfl, hown0, Lib.hid (fun k xs h => by cases h), hb0⟩
  case round =>
    clear hown0 hb0
    obtain ⟨p, vs, hp, rfl, hown, hel, hb⟩ := hrel
    by_cases hlt : p < n + 1
    · obtain ⟨d, hd⟩ : ∃ d, d = n - p := ⟨_, rfl⟩
      have e1 : (n : Int) - (p : Int) = (d : Int) := by omega
      have HS := HSC.out p
      have HP2 := HPR.out p
      have HI2 := HIC.out p
      rw [← hd] at HS HP2 HI2
      replace HS := Lib.hid HS
      replace HP2 := Lib.hid HP2
      replace HI2 := Lib.hid HI2
      have hpn : (p : Int) < (n : Int) + 1 := by omega
      have hd12 : d ≤ 12 := by omega
      rw [HI0.out p] at hown hel
      clear hd
      have hpn' : p ≤ n := by omega
      go_wp2_with fail
      go_loopw [5, 28] (fun v i W => ∃ (k : Nat) (vs : List Value), k ≤ d + 1 ∧ i = .int .i64 (k : Int) ∧ W.ownsRow w.heap.size 30 1 v (outT n 3 p ++ inn n 3 p k).length vs ∧ Hid (∀ (j : Nat) (xs : List Nat), (outT n 3 p ++ inn n 3 p k)[j]? = some xs → ∃ u, vs[j]? = some u ∧ El W u xs) ∧ Below w.heap.size w W) (fun _ i _ => d + 1 - (intOf i).toNat)
      case atStart => exact ⟨0, vs, Nat.zero_le _, rfl, hown, hel, hb⟩
      case round =>
        clear hown hel hb
        obtain ⟨k, vs2, hk, rfl, hown, hel, hb⟩ := hrel
        by_cases hlt2 : k < d + 1
        · obtain ⟨d2, hd2⟩ : ∃ d2, d2 = d - k := ⟨_, rfl⟩
          have e2 : (d : Int) - (k : Int) = (d2 : Int) := by omega
          obtain ⟨p1, p2⟩ := HP2.out k hpn' (by omega)
          have HI3 := HI2.out k (by omega)
          rw [← hd2] at HI3
          replace HI3 := Lib.hid HI3
          have HPU := Lib.hid (fun (W3 : World) (v' : Value) hg h3 => TyR.push (W3 := W3) (v' := v') (cs := [p, k, d2]) hown hel.out p1 (by simp) (by simp) 2 hg h3)
          have hkd : (k : Int) < (d : Int) + 1 := by omega
          clear hd2 p1
          generalize (outT n 3 p ++ inn n 3 p k).length = m at *
          go_wp2_with (at_builtin; refine wpList_append_own _ rfl _ _ 89 rfl w.heap.size 30 i0 (.slice none 0 0) 1 24 Try.underlying89 hi0 hz00 hz01 hz02 rfl (by decide) u5 _ _ rfl ((hown.alloc _).alloc _) ⟨wr.heap.size + 1, 0, none⟩ 1 1 [.slice (some ⟨wr.heap.size, 0, none⟩) 3 3] rfl rfl (new_two _ _ _) (one_oneCell rfl) (by unfold maxLen; omega) (by omega) (by simp only [World.size_alloc]; have := hb.size; omega) ?_; intro v3 w3 hown3 hg3 _)
          have hb3 : Below w.heap.size w w3 := Below.grown ((hb.alloc hb.size _).alloc (by simp only [World.size_alloc]; have := hb.size; omega) _) hg3 (by simp only [World.size_alloc]; have := hb.size; omega) (fun q hq => (hown.lt q hq).1)
          obtain ⟨vs', q1, q2⟩ := HPU.out w3 v3 hg3 hown3
          rw [← HI3.out] at q1 q2
          go_roundw
          case rel => exact ⟨k + 1, vs', by omega, by go_num, q1, Lib.hid q2, hb3⟩
          case measure => simp [intOf]; omega
        · obtain rfl : k = d + 1 := by omega
          have hkd : ¬ ((d + 1 : Nat) : Int) < (d : Int) + 1 := by omega
          rw [← HS.out] at hown hel
          go_wp2
          go_roundw
          case rel => exact ⟨p + 1, vs2, by omega, by go_num, hown, hel, hb⟩
          case measure => simp [intOf]; omega
    · obtain rfl : p = n + 1 := by omega
      have hpn : ¬ ((n + 1 : Nat) : Int) < (n : Int) + 1 := by omega
      go_wp2
      go_ret
      exact ⟨_, rfl, by rw [HFI.out]; exact ⟨vs, hown, hel.out⟩, hb⟩

end Go.Proofs.Ytmocfnpbofeiiaa
