/- Texts that are made of words in two ways: the table of rests, the program's side. -/
import Derived.Test.YtjobgobeiiakgaaDoorUqk
namespace Go.Proofs.YtjobgobeiiakgaaDoor
set_option linter.unusedSimpArgs false
set_option linter.unusedVariables false
open Go.RowKit
open Go.Maps (Keyed Tidy IsMap has size)
theorem OwM.look0 {w : World} {b n : Nat} {D : TM} (h : OwM w b n D) (u : List UInt8) (hu : u.length ≤ 1048576) :
    ∃ s : List UInt8, (Instr.lookup 49 (.map (some b)) (.string ⟨u.toArray⟩) false).run Tryd.prog w = .ok (.string ⟨s.toArray⟩) w ∧ D.atKey (.string u) (.lit (.string [])) = .lit (.string s) := by
  obtain ⟨v, ps, hrun, hv⟩ := World.ownsMap.lookup h keyS Tryd.underlying49 (zeroS w) (plainS [] (Nat.zero_le _)) (keyS_mk u hu)
  obtain ⟨s, rfl, hz⟩ := plainS_inv hv
  exact ⟨s, hrun, congrArg Prod.fst hz⟩
def bN : Value → Nat | .bool true => 1 | _ => 0
/-- What holds of the keys that are done. -/
def KQ (ws : List ByteArray) (ks : List (List UInt8)) (i : Nat) (r : List UInt8) (x : List UInt8 × List UInt8) : Prop := (∃ j, j < i ∧ ks[j]? = some r) ∧ r ≠ [] ∧ x ∈ folL ws r ws.length
def KQF (ws : List ByteArray) (ks : List (List UInt8)) (i : Nat) (r0 : List UInt8) (fs : List (List UInt8 × List UInt8)) (j : Nat) (r : List UInt8) (x : List UInt8 × List UInt8) : Prop := KQ ws ks i r x ∨ (r = r0 ∧ ∃ q, q < j ∧ fs[q]? = some x)
theorem ent_has {D : TM} {r : List UInt8} (h : has D (.string r) = true) : ent D r ≠ none := by unfold ent; rw [h]; simp
theorem has_ent {D : TM} {r : List UInt8} (h : ent D r ≠ none) : has D (.string r) = true := by
  unfold ent at h
  split at h
  · assumption
  · exact absurd rfl h
theorem txt_0 (D : TM) (r more : List UInt8) : txt 0 D r more = [] := rfl
theorem txt_m {m : Nat} (hm : m ≠ 0) {D : TM} {r s : List UInt8} (more : List UInt8) (h : has D (.string r) = true) (hs : D.atKey (.string r) (.lit (.string [])) = .lit (.string s)) : txt m D r more = s ++ more := by
  unfold txt ent
  rw [if_neg hm, h, hs]; rfl

set_option maxRecDepth 100000 in
set_option maxHeartbeats 8000000 in
theorem rests_any (v : Value) (ws : List ByteArray) (w : World) (hv : SlR w v (ws.map Value.string)) (hok : wsOk ws = true) (m : Nat) (hm : m ≤ 32) :
    Calls Tryd.prog 29 #[v, .int .i64 (m : Int)] w fun e w' => ∃ D, e = .returned (.map (some w.heap.size)) ∧ OwM w' w.heap.size 528 D ∧ Fin ws m D ∧ Below w.heap.size w w' := by
  have hw := wsOk_bits hok
  obtain ⟨q1, q2, -⟩ := wsOk_parts hok
  have hL : ∀ j, (wbx ws j).length ≤ 1048576 := fun j => by have := (hw j).2; omega
  obtain ⟨hs1, hs2⟩ := frA_start hw q2 m
  have HF := Lib.hid (firstRests_any v ws w hv hL q2)
  have HSTART := Lib.hid (And.intro hs1 hs2)
  have HSK : Hid (∀ (W : World) (b n : Nat) (D : TM), OwM W b n D → n ≤ 1024 → Calls Tryd.prog 57 #[.map (some b)] W fun e w' => ∃ (ks : List (List UInt8)) (g c : Nat), e = .returned (.slice (some ⟨g, 0, none⟩) ks.length c) ∧ (∀ x, x ∈ ks ↔ has D (.string x) = true) ∧ ks.length ≤ 1024 ∧
      w'.ownsRow W.heap.size 9 1 (.slice (some ⟨g, 0, none⟩) ks.length c) ks.length (ks.map encStr) ∧ Below W.heap.size W w') := Lib.hid (fun W b n D h hn => sortedKeys_any W b n D h hn)
  have HFO : Hid (∀ (W : World) (r : List UInt8), SlR W v (ws.map Value.string) → r.length ≤ 32 → Calls Tryd.prog 58 #[v, .string ⟨r.toArray⟩] W fun e w' => ∃ a c, e = .returned (.slice a (folL ws r ws.length).length c) ∧ w'.ownsRow W.heap.size 88 2 (.slice a (folL ws r ws.length).length c) (folL ws r ws.length).length ((folL ws r ws.length).flatMap p2) ∧ Below W.heap.size W w') :=
    Lib.hid (fun W r h hr => (followers_any v ws W h hw q2 r hr).mono fun e w' hx => by
      obtain ⟨v', h1, h2, h3⟩ := hx
      obtain ⟨a, c, rfl⟩ := ownsRow_shape h2
      exact ⟨a, c, h1, h2, h3⟩)
  have HLO : Hid (∀ (W : World) (b n : Nat) (D : TM), OwM W b n D → n ≤ 1048576 → ∀ (u s : List UInt8), u.length ≤ 1048576 → s.length ≤ 1048576 → Calls Tryd.prog 56 #[.map (some b), .string ⟨u.toArray⟩, .string ⟨s.toArray⟩] W fun e w' => e = .returned (.bool (lowC D u s)) ∧ OwM w' b (n + 1) (lowD D u s) ∧ W.mapTurned w' b) :=
    Lib.hid (fun W b n D h hn u s hu hs => lower_any W b n D h hn u s hu hs)
  have HFIT : Hid (∀ (W : World) (n : Nat) (D : TM), OwM W w.heap.size n D → GInv ws m D → OwM W w.heap.size 528 D) := Lib.hid (fun W n D h hi => h.fit hw q2 hi)
  have HSUF : Hid (∀ (D : TM) (r : List UInt8), GInv ws m D → has D (.string r) = true → r.length ≤ 32) := by
    show ∀ (D : TM) (r : List UInt8), _
    intro D r hi hh
    cases he : ent D r with
    | none => exact absurd he (ent_has hh)
    | some t => exact (suf_bits hw (hi.2 _ _ he).1).2
  have HMORE : Hid (∀ (r : List UInt8) (x : List UInt8 × List UInt8), r.length ≤ 32 → x ∈ folL ws r ws.length → x.1.length ≤ 32 ∧ x.2.length ≤ 32) := by
    show ∀ (r : List UInt8) (x : List UInt8 × List UInt8), _
    intro r x hr hx
    obtain ⟨k, hk, hf⟩ := folL_mem.1 hx
    refine ⟨?_, (fol_more hw (nx := x.1) (more := x.2) hf).2⟩
    unfold fol at hf
    split at hf
    · cases hf; rw [List.length_drop]; omega
    · split at hf
      · cases hf; have := (hw k).2; rw [List.length_drop]; omega
      · cases hf
  have HPUT : Hid (∀ (D0 D : TM) (c : Bool) (Q : List UInt8 → List UInt8 × List UInt8 → Prop), PassR ws m D0 c D Q → ∀ (r : List UInt8), r ≠ [] → ent D0 r ≠ none → ∀ (x : List UInt8 × List UInt8), x ∈ folL ws r ws.length → ∀ s, s = txt m D r x.2 → s.length ≤ m →
      PassR ws m D0 (c || lowC D x.1 s) (lowD D x.1 s) (fun r' x' => Q r' x' ∨ (r' = r ∧ x' = x))) := Lib.hid (fun D0 D c Q h r hr he x hx s hs ht => pass_put hw q2 hm h hr he hx hs ht)
  have HLIM : Hid (∀ (D : TM) (r t : List UInt8), GInv ws m D → has D (.string r) = true → D.atKey (.string r) (.lit (.string [])) = .lit (.string t) → t.length ≤ 32) := by
    show ∀ (D : TM) (r t : List UInt8), _
    intro D r t hi hh ht
    have he : ent D r = some t := by unfold ent; rw [hh, ht]; rfl
    exact (hi.2 _ _ he).2.2.1
  have HF16 : Hid (∀ r, (folL ws r ws.length).length ≤ 16) := Lib.hid (fun r => Nat.le_trans (folL_len ws r ws.length) q2)
  clear hs1 hs2 hL hok q1 q2 hw
  go_enter Tryd.func29, Tryd.ntmps29
  go_wp2_with (go_at_call 28; refine HF.out.mono ?_; rintro e w1 ⟨rfl, hown, hb1⟩)
  have hlt1 := World.ownsMap.lt hown
  have hown := hown.mono (show 512 ≤ 528 by omega)
  go_loopw [6] (fun ch wr => ∃ (c : Bool) (D : TM), ch = .bool c ∧ OwM wr w.heap.size 528 D ∧ Hid (GInv ws m D ∧ Ini ws D ∧ (c = false → Fin ws m D)) ∧ Below w.heap.size w wr) (fun ch wr => 2 * rank ws (mapD wr w.heap.size) + bN ch)
  case atStart => exact ⟨true, _, rfl, hown, Lib.hid ⟨HSTART.out.1, HSTART.out.2, fun e => by cases e⟩, hb1⟩
  case round =>
    clear hown hb1 hlt1
    obtain ⟨c, D, rfl, hown, hI, hb⟩ := hrel
    cases c
    · have hFI := Lib.hid (hI.out.2.2 rfl)
      go_wp2
      go_ret
      exact ⟨rfl, D, hown, hFI.out, hb⟩
    · have hlt := World.ownsMap.lt hown
      have hMD := Lib.hid (mapD_is hown)
      go_wp2_with (go_at_call 57; refine (HSK.out _ _ _ _ hown (by omega)).mono ?_; rintro e w2 ⟨ks, g, cc, rfl, hmem, hkl, hrow, hb2⟩)
      have hown2 := hown.below hb2
      have hbs2 := hb2.size
      have hbb : Below w.heap.size w w2 := hb.trans (hb2.mono (by omega))
      have hrow2 := ownsRow_base (b' := w.heap.size + 1) hrow (by omega)
      have HMEM := Lib.hid hmem
      have hP0 := Lib.hid (pass_start (m := m) hI.out.1 hI.out.2.1)
      obtain ⟨K, hK⟩ : ∃ K, K = ks.length := ⟨_, rfl⟩
      rw [← hK] at hrow2 hkl ⊢
      have HK := Lib.hid hK
      clear hown hb2 hrow hmem hK hb
      go_loopw [6, 18] (fun ch q wr => ∃ (c2 : Bool) (D2 : TM) (i : Nat), ch = .bool c2 ∧ q = .int .i64 (i : Int) ∧ i ≤ K ∧ OwM wr w.heap.size 528 D2 ∧ Hid (PassR ws m D c2 D2 (KQ ws ks i)) ∧ wr.ownsRow (w.heap.size + 1) 9 1 (.slice (some ⟨g, 0, none⟩) K cc) K (ks.map encStr) ∧ Below w.heap.size w wr) (fun _ q _ => K - (intOf q).toNat)
      case atStart => exact ⟨false, D, 0, rfl, rfl, Nat.zero_le _, hown2, Lib.hid (hP0.out.imp fun r x hx => by obtain ⟨⟨j, hj, -⟩, -⟩ := hx; omega), hrow2, hbb⟩
      case round =>
        clear hown2 hrow2 hbb
        obtain ⟨c2, D2, i, rfl, rfl, hi, hown, hP, hrow, hb⟩ := hrel
        have hltB := World.ownsMap.lt hown
        by_cases hiK : i < K
        · have hk1 : ∃ r, ks[i]? = some r := ⟨_, List.getElem?_eq_getElem (by rw [← HK.out]; exact hiK)⟩
          obtain ⟨r, hr⟩ := hk1
          have hcr := hrow.cellAt i (by omega)
          rw [List.getElem?_map, hr] at hcr
          replace hcr : wr.cell? ⟨g, i, none⟩ = some (.string ⟨r.toArray⟩) := hcr
          have hhas : has D (.string r) = true := (HMEM.out r).1 (List.mem_of_getElem? hr)
          have HH := Lib.hid hhas
          have HRI := Lib.hid hr
          have hr32 := HSUF.out D r hI.out.1 hhas
          clear hr hhas
          by_cases he : r = []
          · have hre : r.isEmpty = true := by rw [he]; rfl
            have HE := Lib.hid he
            clear he
            go_wp2
            go_roundw
            case rel =>
              refine ⟨c2, D2, i + 1, rfl, by go_num, by omega, hown, Lib.hid (hP.out.imp fun r' x hx => ?_), hrow, hb⟩
              obtain ⟨⟨j, hj, hjr⟩, h2, h3⟩ := hx
              refine ⟨⟨j, ?_, hjr⟩, h2, h3⟩
              by_cases hji : j = i
              · subst hji
                rw [HRI.out] at hjr
                cases hjr
                exact absurd HE.out h2
              · omega
            case measure => simp [intOf]; omega
          · have hre := isE_false he
            have HE := Lib.hid he
            have hvr := hv.below (hb.mono (Nat.le_refl _))
            clear he
            go_wp2_with (go_at_call 58; refine (HFO.out _ r hvr hr32).mono ?_; rintro e w3 ⟨a3, c3, rfl, hfs, hb3⟩)
            have hown3 := hown.below hb3
            have hrow3 := ownsRow_below hrow hb3
            have hb3w : Below w.heap.size w w3 := hb.trans (hb3.mono (by omega))
            have hbs3 := hb3.size
            have hfs3 := ownsRow_base (b' := w.heap.size + 1) hfs (by omega)
            obtain ⟨fs, hfse⟩ : ∃ fs, fs = folL ws r ws.length := ⟨_, rfl⟩
            rw [← hfse] at hfs3 ⊢
            have HFS := Lib.hid hfse
            obtain ⟨F, hF⟩ : ∃ F, F = fs.length := ⟨_, rfl⟩
            rw [← hF] at hfs3 ⊢
            have HFL := Lib.hid hF
            have hF16 : F ≤ 16 := by rw [hF, hfse]; exact HF16.out r
            clear hown hrow hb hb3 hfs hfse hF hvr
            have hP0 : Hid (PassR ws m D c2 D2 (KQF ws ks i r fs 0)) := Lib.hid (hP.out.imp fun r' x hx => by
              rcases hx with hx | ⟨-, q, hq, -⟩
              · exact hx
              · omega)
            go_loopw [6, 28] (fun ch q wr => ∃ (d3 : Bool) (D3 : TM) (j : Nat), ch = .bool d3 ∧ q = .int .i64 (j : Int) ∧ j ≤ F ∧ OwM wr w.heap.size 528 D3 ∧ Hid (PassR ws m D d3 D3 (KQF ws ks i r fs j)) ∧ wr.ownsRow (w.heap.size + 1) 9 1 (.slice (some ⟨g, 0, none⟩) K cc) K (ks.map encStr) ∧ wr.ownsRow (w.heap.size + 1) 88 2 (.slice a3 F c3) F (fs.flatMap p2) ∧ Below w.heap.size w wr) (fun _ q _ => F - (intOf q).toNat)
            case atStart => exact ⟨c2, D2, 0, rfl, rfl, Nat.zero_le _, hown3, hP0, hrow3, hfs3, hb3w⟩
            case round =>
              clear hown3 hP0 hrow3 hfs3 hb3w hP
              obtain ⟨c4, D3, j, rfl, rfl, hj, hown, hP, hrow, hfr, hb⟩ := hrel
              have hltB := World.ownsMap.lt hown
              by_cases hjF : j < F
              · obtain ⟨g3, rfl, hg31, hg32⟩ := own_some hfr (by omega)
                obtain ⟨e1, e2⟩ := p2_at fs j (by rw [← HFL.out]; exact hjF)
                have hm1 : fs[j]?.getD ([], []) ∈ fs := by
                  rw [List.getElem?_eq_getElem (by rw [← HFL.out]; exact hjF)]
                  exact List.getElem_mem _
                have hm2 : fs[j]? = some (fs[j]?.getD ([], [])) := by
                  rw [List.getElem?_eq_getElem (by rw [← HFL.out]; exact hjF)]; rfl
                have hx1 := hfr.cellAt (j * 2) (by omega)
                have hx2 := hfr.cellAt (j * 2 + 1) (by omega)
                rw [e1] at hx1
                rw [e2] at hx2
                have hsub : ∀ y, y ∈ fs → y ∈ folL ws r ws.length := fun y hy => by rw [← HFS.out]; exact hy
                replace hm1 := hsub _ hm1
                clear hsub
                obtain ⟨m1, m2⟩ := HMORE.out r _ hr32 hm1
                generalize fs[j]?.getD ([], []) = x at *
                have HM1 := Lib.hid hm1
                have HM2 := Lib.hid hm2
                clear e1 e2 hm1 hm2
                have hG3 := hP.out.1
                have hh3 : has D3 (.string r) = true := has_ent (hP.out.2.2.1 r (ent_has HH.out))
                have HLOO := Lib.hid (fun (t : List UInt8) (ht : t.length ≤ 32) => HLO.out (wr.alloc (.cells #[.string ⟨x.1.toArray⟩, .string ⟨x.2.toArray⟩] 88)) w.heap.size 528 D3 (hown.alloc _) (by omega) x.1 t (by omega) (by omega))
                obtain ⟨s, hlook, hs⟩ := OwM.look0 (World.ownsMap.alloc hown (.cells #[.string ⟨x.1.toArray⟩, .string ⟨x.2.toArray⟩] 88)) r (by omega)
                have hsl := HLIM.out D3 r s hG3 hh3 hs
                have HTX := Lib.hid (fun (hm0 : m ≠ 0) => txt_m hm0 x.2 hh3 hs)
                clear hs
                obtain ⟨z, hz⟩ : ∃ z, z = s ++ x.2 := ⟨_, rfl⟩
                have HZ := Lib.hid hz
                have hcat : ∀ W, (Op.stringOp .add ⟨s.toArray⟩ ⟨x.2.toArray⟩).run Tryd.prog W = .ok (.string ⟨z.toArray⟩) W := fun W => by rw [HZ.out]; exact run_string_add_lists W s x.2 (by omega) (by omega)
                have hzl : z.length ≤ 64 := by rw [hz, List.length_append]; omega
                clear hz
                have HPP := Lib.hid (fun (t : List UInt8) (ht : t = txt m D3 r x.2) (hl : t.length ≤ m) => HPUT.out D D3 c4 _ hP.out r HE.out (ent_has HH.out) x HM1.out t ht hl)
                have HPL := Lib.hid (fun (t : List UInt8) (ht : t = txt m D3 r x.2) (hl : ¬ t.length ≤ m) => pass_long hP.out ht hl)
                have HQ : Hid (∀ r' x', KQF ws ks i r fs (j + 1) r' x' → KQF ws ks i r fs j r' x' ∨ (r' = r ∧ x' = x)) := by
                  show ∀ r' x', _
                  intro r' x' h
                  rcases h with h | ⟨h1, q, hq, hqx⟩
                  · exact .inl (.inl h)
                  · by_cases e : q = j
                    · subst e
                      rw [HM2.out] at hqx
                      cases hqx
                      exact .inr ⟨h1, rfl⟩
                    · exact .inl (.inr ⟨h1, q, by omega, hqx⟩)
                clear hG3 hh3
                have fin : ∀ (t : List UInt8), t = txt m D3 r x.2 → t.length ≤ m → ∀ w9 : World, OwM w9 w.heap.size (528 + 1) (lowD D3 x.1 t) → (wr.alloc (.cells #[.string ⟨x.1.toArray⟩, .string ⟨x.2.toArray⟩] 88)).mapTurned w9 w.heap.size →
                    OwM w9 w.heap.size 528 (lowD D3 x.1 t) ∧ PassR ws m D (c4 || lowC D3 x.1 t) (lowD D3 x.1 t) (KQF ws ks i r fs (j + 1)) ∧ w9.ownsRow (w.heap.size + 1) 9 1 (.slice (some ⟨g, 0, none⟩) K cc) K (ks.map encStr) ∧ w9.ownsRow (w.heap.size + 1) 88 2 (.slice (some ⟨g3, 0, none⟩) F c3) F (fs.flatMap p2) ∧ Below w.heap.size w w9 := by
                  intro t ht hl w9 h1 h2
                  have h3 := (HPP.out t ht hl).imp HQ.out
                  exact ⟨HFIT.out _ _ _ h1 h3.1, h3, (hrow.alloc _).kept h2.grown (.inr (fun e => row_ne_low hrow (Nat.lt_succ_self _) e.symm)), (hfr.alloc _).kept h2.grown (.inr (fun e => row_ne_low hfr (Nat.lt_succ_self _) e.symm)),
                    (hb.alloc hb.size _).grown h2.grown (by have := hb.size; simp only [World.size_alloc]; omega) (fun q hq => by cases hq; exact Nat.le_refl _)⟩
                have HFIN := Lib.hid fin
                clear fin
                by_cases hm0 : m = 0
                · have HLO0 := Lib.hid (HLOO.out [] (by simp))
                  have HF0 := Lib.hid (HFIN.out [] (by unfold txt; rw [if_pos hm0]) (by simp))
                  have hmd : ((m : Int) == 0) = true := by rw [hm0]; rfl
                  have hmx : max (m : Int) 0 = (m : Int) := by omega
                  have hml : (0 : Int) ≤ (m : Int) := by omega
                  clear hm0
                  clear HFIN HLOO HTX HPP HPL
                  cases hc : lowC D3 x.1 []
                  · rw [hc] at HLO0 HF0
                    rw [Bool.or_false] at HF0
                    go_wp2_with (go_at_call 56; refine HLO0.out.mono ?_; rintro e w9 ⟨rfl, hown9, ht9⟩; obtain ⟨f1, f2, f3, f4, f5⟩ := HF0.out w9 hown9 ht9)
                    go_roundw
                    case rel => exact ⟨c4, _, j + 1, rfl, by go_num, by omega, f1, Lib.hid f2, f3, f4, f5⟩
                    case measure => simp [intOf]; omega
                  · rw [hc] at HLO0 HF0
                    rw [Bool.or_true] at HF0
                    go_wp2_with (go_at_call 56; refine HLO0.out.mono ?_; rintro e w9 ⟨rfl, hown9, ht9⟩; obtain ⟨f1, f2, f3, f4, f5⟩ := HF0.out w9 hown9 ht9)
                    go_roundw
                    case rel => exact ⟨true, _, j + 1, rfl, by go_num, by omega, f1, Lib.hid f2, f3, f4, f5⟩
                    case measure => simp [intOf]; omega
                · have hmi : ¬ (m : Int) = 0 := by omega
                  have hmx : max (m : Int) 0 = (m : Int) := by omega
                  have HT : Hid (z = txt m D3 r x.2) := by show _ = _; rw [HTX.out hm0]; exact HZ.out
                  by_cases hzm : z.length ≤ m
                  · have HLO0 := Lib.hid (HLOO.out z (by omega))
                    have HF0 := Lib.hid (HFIN.out z HT.out hzm)
                    clear HFIN HLOO HTX HPP HPL
                    cases hc : lowC D3 x.1 z
                    · rw [hc] at HLO0 HF0
                      rw [Bool.or_false] at HF0
                      go_wp2_with (go_at_call 56; refine HLO0.out.mono ?_; rintro e w9 ⟨rfl, hown9, ht9⟩; obtain ⟨f1, f2, f3, f4, f5⟩ := HF0.out w9 hown9 ht9)
                      go_roundw
                      case rel => exact ⟨c4, _, j + 1, rfl, by go_num, by omega, f1, Lib.hid f2, f3, f4, f5⟩
                      case measure => simp [intOf]; omega
                    · rw [hc] at HLO0 HF0
                      rw [Bool.or_true] at HF0
                      go_wp2_with (go_at_call 56; refine HLO0.out.mono ?_; rintro e w9 ⟨rfl, hown9, ht9⟩; obtain ⟨f1, f2, f3, f4, f5⟩ := HF0.out w9 hown9 ht9)
                      go_roundw
                      case rel => exact ⟨true, _, j + 1, rfl, by go_num, by omega, f1, Lib.hid f2, f3, f4, f5⟩
                      case measure => simp [intOf]; omega
                  · have HP3 : Hid (PassR ws m D c4 D3 (KQF ws ks i r fs (j + 1))) := Lib.hid ((HPL.out z HT.out hzm).imp HQ.out)
                    have hzi : ¬ (z.length : Int) ≤ (m : Int) := by omega
                    clear HFIN HLOO HTX HPP HPL
                    go_wp2
                    go_roundw
                    case rel => exact ⟨c4, D3, j + 1, rfl, by go_num, by omega, hown.alloc _, HP3, hrow.alloc _, hfr.alloc _, hb.alloc hb.size _⟩
                    case measure => simp [intOf]; omega
              · obtain rfl : F = j := by omega
                have HP2 : Hid (PassR ws m D c4 D3 (KQ ws ks (i + 1))) := Lib.hid (hP.out.imp fun r' x hx => by
                  obtain ⟨⟨q, hq, hqr⟩, h2, h3⟩ := hx
                  by_cases hqi : q = i
                  · subst hqi
                    rw [HRI.out] at hqr
                    cases hqr
                    rw [← HFS.out] at h3
                    obtain ⟨q2, hq2⟩ := List.mem_iff_getElem?.1 h3
                    refine .inr ⟨rfl, q2, ?_, hq2⟩
                    rw [HFL.out]
                    exact (List.getElem?_eq_some_iff.1 hq2).1
                  · exact .inl ⟨⟨q, by omega, hqr⟩, h2, h3⟩)
                go_wp2
                go_roundw
                case rel => exact ⟨c4, D3, i + 1, rfl, by go_num, by omega, hown, HP2, hrow, hb⟩
                case measure => simp [intOf]; omega
        · obtain rfl : K = i := by omega
          have HG : Hid (GInv ws m D2 ∧ Ini ws D2 ∧ (c2 = false → Fin ws m D2)) := by
            obtain ⟨h1, h2, h3, h4, h5⟩ := hP.out
            refine ⟨h1, h2, fun e => ⟨h1, h2, fun r t he hr x hx => ?_⟩⟩
            obtain ⟨e1, e2⟩ := h5 e
            rw [e1] at he ⊢
            have hh := has_ent (D := D) (r := r) (by rw [he]; simp)
            obtain ⟨q, hq⟩ := List.mem_iff_getElem?.1 ((HMEM.out r).2 hh)
            exact e2 r x ⟨⟨q, by rw [HK.out]; exact (List.getElem?_eq_some_iff.1 hq).1, hq⟩, hr, hx⟩
          have HME : Hid (2 * rank ws D2 + bN (.bool c2) < 2 * rank ws D + 1) := by
            obtain ⟨h1, h2, h3, h4, h5⟩ := hP.out
            show _ < _
            cases c2
            · rw [(h5 rfl).1]
              show 2 * rank ws D + 0 < _
              omega
            · have := h4 rfl
              show 2 * rank ws D2 + 1 < _
              omega
          have HMW := Lib.hid (mapD_is hown)
          go_wp2
          go_roundw
          case rel => exact ⟨c2, D2, rfl, hown, HG, hb⟩
          case measure =>
            rw [HMW.out, hMD.out]
            exact HME.out

end Go.Proofs.YtjobgobeiiakgaaDoor
