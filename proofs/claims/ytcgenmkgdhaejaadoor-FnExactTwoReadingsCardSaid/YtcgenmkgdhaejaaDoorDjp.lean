/- Texts that are made of words in two ways: putting a rest, the reference's side. -/
import Derived.Test.YtcgenmkgdhaejaaDoorDij
import Derived.Test.YtcgenmkgdhaejaaDoorUqi
import Derived.Maps.AppendAt
import Derived.BigQuiet
namespace Go.Proofs.YtcgenmkgdhaejaaDoor
set_option linter.unusedSimpArgs false
set_option linter.unusedVariables false
open Go.RowKit

theorem l04First_any (a b : List UInt8) (w : World) :
    Calls Tryd.prog 55 #[.string ⟨a.toArray⟩, .string ⟨b.toArray⟩] w fun e w' => e = .returned (.bool (bef a b)) ∧ w' = w := by
  by_cases h2 : a.length = b.length
  · have HR : Hid (bef a b = Op.bytesLess a b) := by show _ = _; unfold bef; rw [decide_eq_false (by omega), decide_eq_true h2]; rfl
    have k1 : ((a.length : Int) != (b.length : Int)) = false := by rw [h2]; simp
    go_enter Tryd.func55, Tryd.ntmps55
    go_wp2
    go_ret
    exact ⟨ret_bool HR.out.symm, rfl⟩
  · have k2 : ¬ (a.length : Int) = (b.length : Int) := by omega
    have HR : Hid (bef a b = decide (a.length < b.length)) := by
      show _ = _
      unfold bef
      rw [decide_eq_false h2]
      simp
    go_enter Tryd.func55, Tryd.ntmps55
    go_wp2
    go_ret
    exact ⟨ret_bool HR.out.symm, rfl⟩
def bl (M : List Ah) : List Value := M.map fun p => .bool p.2
def pl (M : List Ah) : List Value := M.flatMap fun p => p2 p.1
theorem pl_eq (M : List Ah) : pl M = (M.map (·.1)).flatMap p2 := by unfold pl; rw [List.flatMap_map]
theorem pl_len (M : List Ah) : (pl M).length = M.length * 2 := by rw [pl_eq, p2_len, List.length_map]
theorem bl_len (M : List Ah) : (bl M).length = M.length := by unfold bl; rw [List.length_map]
theorem pl_at {M : List Ah} {k : Nat} {p : Ah} (h : M[k]? = some p) : (pl M)[k * 2]? = some (.string ⟨p.1.1.toArray⟩) ∧ (pl M)[k * 2 + 1]? = some (.string ⟨p.1.2.toArray⟩) := by
  have hk := (List.getElem?_eq_some_iff.1 h).1
  have := p2_at (M.map (·.1)) k (by rw [List.length_map]; exact hk)
  rw [pl_eq]
  rw [List.getElem?_map, h] at this
  exact this
theorem bl_at {M : List Ah} {k : Nat} {p : Ah} (h : M[k]? = some p) : (bl M)[k]? = some (.bool p.2) := by
  unfold bl; rw [List.getElem?_map, h]; rfl
theorem pl_snoc (M : List Ah) (x : List UInt8 × List UInt8) (b : Bool) : pl (M ++ [(x, b)]) = pl M ++ [.string ⟨x.1.toArray⟩, .string ⟨x.2.toArray⟩] := by
  unfold pl; rw [List.flatMap_append]; rfl
theorem bl_snoc (M : List Ah) (x : List UInt8 × List UInt8) (b : Bool) : bl (M ++ [(x, b)]) = bl M ++ [.bool b] := by
  unfold bl; rw [List.map_append]; rfl
theorem pl_set (M : List Ah) : ∀ (k : Nat) (x : List UInt8 × List UInt8) (b : Bool), k < M.length → pl (M.set k (x, b)) = ((pl M).set (k * 2) (.string ⟨x.1.toArray⟩)).set (k * 2 + 1) (.string ⟨x.2.toArray⟩) := by
  induction M with
  | nil => intro k x b h; simp at h
  | cons a r ih =>
    intro k x b h
    cases k with
    | zero => rfl
    | succ k =>
      have := ih k x b (by simpa using h)
      rw [List.set_cons_succ]
      show p2 a.1 ++ pl (r.set k (x, b)) = _
      rw [this]
      show _ = ((p2 a.1 ++ pl r).set ((k + 1) * 2) _).set ((k + 1) * 2 + 1) _
      rw [show (k + 1) * 2 = k * 2 + 1 + 1 by omega]
      rfl
theorem bl_set_same {M : List Ah} {k : Nat} {p : Ah} (h : M[k]? = some p) (x : List UInt8 × List UInt8) : bl (M.set k (x, p.2)) = bl M := by
  unfold bl
  rw [List.map_set]
  apply List.ext_getElem?
  intro i
  by_cases e : i = k
  · subst e
    have hk := (List.getElem?_eq_some_iff.1 h).1
    rw [List.getElem?_set_self (by rw [List.length_map]; exact hk), List.getElem?_map, h]; rfl
  · rw [List.getElem?_set_ne (Ne.symm e)]
theorem pl_set_same {M : List Ah} {k : Nat} {p : Ah} (h : M[k]? = some p) (b : Bool) : pl (M.set k (p.1, b)) = pl M := by
  rw [pl_eq, pl_eq, List.map_set]
  congr 1
  apply List.ext_getElem?
  intro i
  by_cases e : i = k
  · subst e
    have hk := (List.getElem?_eq_some_iff.1 h).1
    rw [List.getElem?_set_self (by rw [List.length_map]; exact hk), List.getElem?_map, h]; rfl
  · rw [List.getElem?_set_ne (Ne.symm e)]
theorem bl_set (M : List Ah) (k : Nat) (x : List UInt8 × List UInt8) (b : Bool) : bl (M.set k (x, b)) = (bl M).set k (.bool b) := by unfold bl; rw [List.map_set]
theorem own_kne {w w' : World} {b : Nat} {e : TypeId} {s : Nat} {v u : Value} {n : Nat} {xs : List Value} (h : w.ownsRow b e s v n xs) (hg : w.grownBy w' u.ownBlock) (hne : ∀ g, u.ownBlock = some g → v.ownBlock ≠ some g) : w'.ownsRow b e s v n xs := by
  refine h.kept hg ?_
  cases hv : v.ownBlock with
  | none => exact .inl rfl
  | some g => exact .inr (fun e => hne g e.symm hv)
/-- All that was there stays but for the two rows. -/
def Kp (w w' : World) (v u : Value) : Prop := w'.os = w.os ∧ w'.tape = w.tape ∧ w'.output = w.output ∧ w.heap.size ≤ w'.heap.size ∧ ∀ k, k < w.heap.size → v.ownBlock ≠ some k → u.ownBlock ≠ some k → w'.heap[k]? = w.heap[k]?
/-- The list and the marks, each in a row of its own. -/
def Two (w : World) (B : Nat) (v u : Value) (M : List Ah) : Prop := w.ownsRow B 69 2 v M.length (pl M) ∧ w.ownsRow B 4 1 u M.length (bl M) ∧ ∀ k, v.ownBlock = some k → u.ownBlock ≠ some k
theorem Two.below {w w' : World} {B : Nat} {v u : Value} {M : List Ah} (h : Two w B v u M) (hb : Below w.heap.size w w') : Two w' B v u M := ⟨ownsRow_below h.1 hb, ownsRow_below h.2.1 hb, h.2.2⟩
/-- Where a row lies behind a step. -/
def Lie (w : World) (v v' : Value) : Prop := ∀ k, v'.ownBlock = some k → v.ownBlock = some k ∨ w.heap.size ≤ k
theorem info_Ah : (Tryd.prog.info? 69).map (fun i => (i.zero, i.size, i.bytes)) = some (some (.agg #[.string ⟨#[]⟩, .string ⟨#[]⟩]), 2, 32) := by kernel_rfl
theorem info_Bool : (Tryd.prog.info? 4).map (fun i => (i.zero, i.size, i.bytes)) = some (some (.bool false), 1, 1) := by kernel_rfl


set_option maxRecDepth 100000 in
set_option maxHeartbeats 4000000 in
theorem l04Put_any (w : World) (B : Nat) (v u : Value) (M : List Ah) (h2 : Two w B v u M) (hB : B ≤ w.heap.size) (hM : M.length ≤ 1000) (r t : List UInt8) :
    Calls Tryd.prog 54 #[v, u, .agg #[.string ⟨r.toArray⟩, .string ⟨t.toArray⟩]] w fun e w' => ∃ x, e = .returned x ∧ ∃ v' u' M', x = .tuple #[v', u'] ∧ PutR M (r, t) M' ∧ Two w' B v' u' M' ∧ Kp w w' v u ∧ Lie w v v' ∧ Lie w u u' := by
  obtain ⟨i0, hi0, hz00, hz01, hz02⟩ := info_parts info_Ah
  obtain ⟨i1, hi1, hz10, hz11, hz12⟩ := info_parts info_Bool
  obtain ⟨ho, hd, hne⟩ := h2
  obtain ⟨av, cv, rfl⟩ := ownsRow_shape ho
  obtain ⟨au, cu, rfl⟩ := ownsRow_shape hd
  obtain ⟨N, hN⟩ : ∃ N, N = M.length := ⟨_, rfl⟩
  rw [← hN] at ho hd hM hne ⊢
  have HN := Lib.hid hN
  have HNE := Lib.hid hne
  obtain ⟨w1, hw1⟩ : ∃ w1, w1 = w.alloc (.cells #[.string ⟨r.toArray⟩, .string ⟨t.toArray⟩] 69) := ⟨_, rfl⟩
  have hb1 : Below w.heap.size w w1 := by rw [hw1]; go_grown
  have hx1 : w1.cell? ⟨w.heap.size, 0, none⟩ = some (.string ⟨r.toArray⟩) := by rw [hw1]; go_cell
  have hx2 : w1.cell? ⟨w.heap.size, 1, none⟩ = some (.string ⟨t.toArray⟩) := by rw [hw1]; go_cell
  have ho1 := ownsRow_below ho hb1
  have hd1 := ownsRow_below hd hb1
  have hs1 : w1.heap.size = w.heap.size + 1 := by rw [hw1]; simp
  clear hN hne ho hd
  go_enter Tryd.func54, Tryd.ntmps54
  go_wp2
  rw [← hw1]
  clear hw1
  go_loopw [8] (fun q wr => ∃ k : Nat, k ≤ N ∧ q = .int .i64 (k : Int) ∧ Hid (∀ (j : Nat) (p : Ah), j < k → M[j]? = some p → p.1.1 ≠ r) ∧ Qu w1 wr) (fun q _ => N - (intOf q).toNat)
  case atStart => exact ⟨0, Nat.zero_le _, rfl, Lib.hid (fun j p hj => by omega), Qu.refl _⟩
  case round =>
    obtain ⟨k, hk, rfl, hno, hq⟩ := hrel
    have hbq := hq.below w1.heap.size
    have hx1q := cell_step hx1 hbq
    have hx2q := cell_step hx2 hbq
    have hoq := ownsRow_below ho1 hbq
    have hdq := ownsRow_below hd1 hbq
    by_cases hkN : k < N
    · obtain ⟨p, hp⟩ : ∃ p, M[k]? = some p := ⟨_, List.getElem?_eq_getElem (by rw [← HN.out]; exact hkN)⟩
      obtain ⟨gv, rfl, gv1, gv2⟩ := own_some hoq (by omega)
      obtain ⟨gu, rfl, gu1, gu2⟩ := own_some hdq (by omega)
      have hc1 := hoq.cellAt (k * 2) (by omega)
      have hc2 := hoq.cellAt (k * 2 + 1) (by omega)
      have hc3 := hdq.cellAt k (by omega)
      rw [(pl_at hp).1] at hc1
      rw [(pl_at hp).2] at hc2
      rw [bl_at hp] at hc3
      have HP := Lib.hid hp
      clear hp
      obtain ⟨⟨pr, pt⟩, pb⟩ := p
      replace hc1 : wr.cell? ⟨gv, k * 2, none⟩ = some (.string ⟨pr.toArray⟩) := hc1
      replace hc2 : wr.cell? ⟨gv, k * 2 + 1, none⟩ = some (.string ⟨pt.toArray⟩) := hc2
      replace hc3 : wr.cell? ⟨gu, k, none⟩ = some (.bool pb) := hc3
      by_cases he : pr = r
      · have HE := Lib.hid he
        have hbe : (pr == r) = true := by simpa using he
        have HQ := Lib.hid hbq
        have HTWO : Hid (Two wr B (.slice (some ⟨gv, 0, none⟩) N cv) (.slice (some ⟨gu, 0, none⟩) N cu) M) := ⟨by rw [← HN.out]; exact hoq, by rw [← HN.out]; exact hdq, HNE.out⟩
        have HB1 := Lib.hid hb1
        have HNN := Lib.hid hno.out
        have HKEEP : Hid (∀ W, Qu w1 W → Kp w W (.slice (some ⟨gv, 0, none⟩) N cv) (.slice (some ⟨gu, 0, none⟩) N cu)) := by
          show ∀ W, _
          intro W hW
          have hb : Below w.heap.size w W := hb1.trans ((hW.below w1.heap.size).mono (by omega))
          exact ⟨hb.os, hb.tape, hb.output, hb.size, fun q hq _ _ => hb.block q hq⟩
        have HTW : Hid (∀ W, Qu w1 W → Two W B (.slice (some ⟨gv, 0, none⟩) N cv) (.slice (some ⟨gu, 0, none⟩) N cu) M) := by
          show ∀ W, _
          intro W hW
          exact ⟨by rw [← HN.out]; exact ownsRow_below ho1 (hW.below w1.heap.size), by rw [← HN.out]; exact ownsRow_below hd1 (hW.below w1.heap.size), HNE.out⟩
        cases pb
        · have hcall : ∀ W : World, Calls Tryd.prog 55 #[.string ⟨t.toArray⟩, .string ⟨pt.toArray⟩] W fun e w' => e = .returned (.bool (bef t pt)) ∧ w' = W := fun W => l04First_any t pt W
          cases hbf : bef t pt
          · rw [hbf] at hcall
            have HBX := Lib.hid hcall
            have HBF := Lib.hid hbf
            clear hcall hbf he
            go_wp2_with fail
            go_quiet (fail)
            have hk1 := ((Qu.refl wr).drewN nq).keep
            have hqa := hq.drewN nq
            have d1 := cell_step hc2 hk1
            have d2 := cell_step hc3 hk1
            have d3 := cell_step hx2q hk1
            generalize wr.drewN nq = wq at *
            go_wp2_with fail
            go_quiet ((go_at_call 55; exact Calls.quiet_of_same (HBX.out _)))
            go_wp2
            have hqb := hqa.drewN nq
            go_ret2
            exact ⟨_, rfl, _, _, M, rfl, .inl ⟨k, _, HP.out, HE.out, .inr ⟨.inr HBF.out, rfl⟩⟩, HTW.out _ hqb, HKEEP.out _ hqb, fun q hq => .inl hq, fun q hq => .inl hq⟩
          · rw [hbf] at hcall
            have HBX := Lib.hid hcall
            have HBF := Lib.hid hbf
            clear hcall hbf he
            go_wp2_with fail
            go_quiet (fail)
            have hk1 := ((Qu.refl wr).drewN nq).keep
            have hqa := hq.drewN nq
            have d1 := cell_step hc2 hk1
            have d2 := cell_step hc3 hk1
            have d3 := cell_step hx2q hk1
            generalize wr.drewN nq = wq at *
            go_wp2_with fail
            go_quiet ((go_at_call 55; exact Calls.quiet_of_same (HBX.out _)))
            have hqb := hqa.drewN nq
            generalize wq.drewN nq = wz at *
            have hoz := ownsRow_below ho1 (hqb.below w1.heap.size)
            have e1 := cell_step hx1 (hqb.below w1.heap.size)
            have e2 := cell_step hx2 (hqb.below w1.heap.size)
            have e3 := hoz.cellAt (k * 2) (by omega)
            have e4 := hoz.cellAt (k * 2 + 1) (by omega)
            have e5 := hoz.frozenAt (k * 2)
            have e6 := hoz.frozenAt (k * 2 + 1)
            rw [(pl_at HP.out).1] at e3
            rw [(pl_at HP.out).2] at e4
            have hs3 := hoz.stored (k * 2) (.string ⟨r.toArray⟩)
            have hs4 := hs3.1.stored (k * 2 + 1) (.string ⟨t.toArray⟩)
            have hdz := own_kne (u := .slice (some ⟨gv, 0, none⟩) N cv) (ownsRow_below hd1 (hqb.below w1.heap.size)) hs3.2 HNE.out
            have hdz := own_kne (u := .slice (some ⟨gv, 0, none⟩) N cv) hdz hs4.2 HNE.out
            have HKZ := HKEEP.out _ hqb
            have HS3 := Lib.hid hs3
            have HS4 := Lib.hid hs4
            have HDZ := Lib.hid hdz
            clear hs3 hs4 hdz
            go_wp2
            go_ret2
            have hset : pl (M.set k ((r, t), false)) = ((pl M).set (k * 2) (.string ⟨r.toArray⟩)).set (k * 2 + 1) (.string ⟨t.toArray⟩) := pl_set M k (r, t) false (by rw [← HN.out]; exact hkN)
            have hbset : bl (M.set k ((r, t), false)) = bl M := bl_set_same HP.out (r, t)
            have hlen : (M.set k ((r, t), false)).length = N := by rw [List.length_set, HN.out]
            refine ⟨_, rfl, .slice (some ⟨gv, 0, none⟩) N cv, .slice (some ⟨gu, 0, none⟩) N cu, rfl, M.set k ((r, t), false), .inl ⟨k, _, HP.out, HE.out, .inl ⟨rfl, HBF.out, rfl⟩⟩, ⟨?_, ?_, HNE.out⟩, ⟨?_, ?_, ?_, ?_, ?_⟩, fun q hq => .inl hq, fun q hq => .inl hq⟩
            · rw [hlen, hset]; exact HS4.out.1
            · rw [hlen, hbset]; exact HDZ.out
            · exact HS4.out.2.os.trans (HS3.out.2.os.trans HKZ.1)
            · exact HS4.out.2.tape.trans (HS3.out.2.tape.trans HKZ.2.1)
            · exact HS4.out.2.output.trans (HS3.out.2.output.trans HKZ.2.2.1)
            · exact Nat.le_trans HKZ.2.2.2.1 (Nat.le_trans HS3.out.2.size HS4.out.2.size)
            · intro q hq h3 h4
              have hz := HKZ.2.2.2.1
              have hne : some q ≠ some gv := fun e => h3 e.symm
              rw [HS4.out.2.block q (Nat.lt_of_lt_of_le hq (Nat.le_trans hz HS3.out.2.size)) hne, HS3.out.2.block q (Nat.lt_of_lt_of_le hq hz) hne]
              exact HKZ.2.2.2.2 q hq h3 h4
        · have HPB : Hid ((decide ((true : Bool) = false)) = false) := rfl
          clear he
          go_wp2_with fail
          go_quiet (fail)
          have hk1 := ((Qu.refl wr).drewN nq).keep
          have hqa := hq.drewN nq
          have d1 := cell_step hc2 hk1
          have d2 := cell_step hc3 hk1
          have d3 := cell_step hx2q hk1
          generalize wr.drewN nq = wq at *
          go_wp2_with fail
          go_quiet (fail)
          have hqb := hqa.drewN nq
          go_wp2
          go_ret2
          exact ⟨_, rfl, _, _, M, rfl, .inl ⟨k, _, HP.out, HE.out, .inr ⟨.inl rfl, rfl⟩⟩, HTW.out _ hqb, HKEEP.out _ hqb, fun q hq => .inl hq, fun q hq => .inl hq⟩
      · have HE := Lib.hid he
        have hbe : (pr == r) = false := by simpa using he
        go_wp2_with fail
        go_quiet (fail)
        have hq2 := hq.drewN nq
        go_wp2
        go_roundw
        case rel => exact ⟨k + 1, by omega, by go_num, Lib.hid (fun j q hj hq => by
          by_cases e : j = k
          · subst e
            rw [HP.out] at hq
            cases hq
            exact HE.out
          · exact hno.out j q (by omega) hq), hq2⟩
        case measure => simp [intOf]; omega
    · obtain rfl : N = k := by omega
      have hB1 : B ≤ wr.heap.size := by have := hbq.size; omega
      go_wp2_with (first
        | (at_builtin; refine wpList_append_own_at _ rfl _ _ 64 rfl B 69 i0 _ 2 32 Tryd.underlying64 hi0 hz00 hz01 hz02 rfl (by decide) (.slice av N cv) _ _ rfl (hoq.alloc _) ⟨wr.heap.size, 0, none⟩ 1 1 [.string ⟨r.toArray⟩, .string ⟨t.toArray⟩] rfl rfl (cell_two_new _ _ _ _) (two_oneCell _ _) (by unfold maxLen; omega) (by omega) (by simp only [World.size_alloc]; omega) ?_; intro v1 w2 hown1 hgx _ hat; have hgs := hgx.size; have hd2 := hdq.alloc (.cells #[.string ⟨r.toArray⟩, .string ⟨t.toArray⟩] 69); have hd2 := own_kne hd2 hgx HNE.out)
        | (at_builtin; refine wpList_append_own_at _ rfl _ _ 65 rfl B 4 i1 _ 1 1 Tryd.underlying65 hi1 hz10 hz11 hz12 rfl (by decide) (.slice au N cu) _ _ rfl (hd2.alloc _) ⟨w2.heap.size, 0, none⟩ 1 1 [.bool false] rfl rfl (cell_one_new _ _ _) (one_oneCell rfl) (by unfold maxLen; omega) (by omega) (by simp only [World.size_alloc] at hgs ⊢; omega) ?_; intro u1 w3 hown2 hgy _ hau))
      go_ret2
      have hbw : Below w.heap.size w wr := hb1.trans (hbq.mono (by omega))
      have hsz : wr.heap.size = w.heap.size + 1 := by
        obtain ⟨m, rfl⟩ := hq
        exact hs1
      refine ⟨_, rfl, v1, u1, M ++ [((r, t), false)], rfl, .inr ⟨fun p hp => ?_, rfl⟩, ⟨?_, ?_, fun k hk1 hk2 => ?_⟩, ⟨?_, ?_, ?_, ?_, ?_⟩, fun k hk => ?_, fun k hk => ?_⟩
      · obtain ⟨j, hj, hjp⟩ := List.getElem_of_mem hp
        exact hno.out j p (by rw [HN.out]; exact hj) (by rw [List.getElem?_eq_getElem hj, hjp])
      · rw [List.length_append, List.length_singleton, ← HN.out, pl_snoc]
        exact own_kne (hown1.alloc _) hgy (fun g hg e => by
          rcases hat with ha | ha
          · rw [ha] at e; exact HNE.out g e hg
          · rw [ha] at e
            have := (hd2.lt g hg).2
            have h3 := (hdq.lt g hg).2
            cases e
            simp only [World.size_alloc] at h3
            omega)
      · rw [List.length_append, List.length_singleton, ← HN.out, bl_snoc]
        exact hown2
      · rcases hau with ha | ha
        · rw [ha] at hk2
          rcases hat with hv | hv
          · rw [hv] at hk1; exact HNE.out k hk1 hk2
          · rw [hv] at hk1
            have h3 := (hdq.lt k hk2).2
            cases hk1
            simp only [World.size_alloc] at h3
            omega
        · rw [ha] at hk2
          have h3 := (hown1.lt k hk1).2
          cases hk2
          simp only [World.size_alloc] at h3
          omega
      · exact hgy.os.trans (hgx.os.trans hbw.os)
      · exact hgy.tape.trans (hgx.tape.trans hbw.tape)
      · exact hgy.output.trans (hgx.output.trans hbw.output)
      · have h3 := hgy.size; have h4 := hbw.size
        simp only [World.size_alloc] at h3 hgs
        omega
      · intro k hk h3 h4
        have s3 := hgy.size
        simp only [World.size_alloc] at s3 hgs
        rw [hgy.block k (by simp only [World.size_alloc]; omega) (fun e => h4 e.symm)]
        rw [Below.heap_alloc _ _ _ (by omega)]
        rw [hgx.block k (by simp only [World.size_alloc]; omega) (fun e => h3 e.symm)]
        rw [Below.heap_alloc _ _ _ (by omega)]
        exact hbw.block k hk
      · rcases hat with hv | hv
        · rw [hv] at hk; exact .inl hk
        · rw [hv] at hk
          cases hk
          simp only [World.size_alloc]
          exact .inr (by omega)
      · rcases hau with hv | hv
        · rw [hv] at hk; exact .inl hk
        · rw [hv] at hk
          cases hk
          simp only [World.size_alloc] at hgs ⊢
          exact .inr (by omega)

end Go.Proofs.YtcgenmkgdhaejaaDoor
