/- Texts that are made of words in two ways: the rests in order. -/
import Derived.Test.YtjobgobeiiakgaaDoorUqi
import Derived.Test.YtjobgobeiiakgaaDoorHws
import Derived.Maps.RangeWalk
import Derived.Maps.OwnOps
import Derived.Sort.OwnSorted
namespace Go.Proofs.YtjobgobeiiakgaaDoor
set_option linter.unusedSimpArgs false
set_option linter.unusedVariables false
open Go.RowKit
open Go.Maps (Keyed Tidy IsMap has size)
theorem info_strU : (Tryd.prog.info? 9).map (fun i => (i.zero, i.size, i.bytes)) = some (some (.string ⟨#[]⟩), 1, 16) := by kernel_rfl
theorem OwM.below {w w' : World} {b n : Nat} {D : TM} (h : OwM w b n D) (hb : Below w.heap.size w w') : OwM w' b n D := by
  have hlt := World.ownsMap.lt h
  obtain ⟨es, clock, hh, r⟩ := h
  exact ⟨es, clock, by rw [hb.block b hlt]; exact hh, r⟩
theorem OwM.shrink {w : World} {b n m : Nat} {D : TM} (h : OwM w b n D) (hm : size D ≤ m) : OwM w b m D := by
  obtain ⟨es, clock, hh, F, hn, hD⟩ := h
  refine ⟨es, clock, hh, F, ?_, hD⟩
  rw [hD] at hm
  have : (List.foldr DataW.insert [] (es.toList.map (WideElems.rg Tryd.prog 9 (plainElem Tryd.prog 9)))).length = es.size := Go.length_read (H := Unit) es
  show es.size ≤ m
  rw [← this]; exact hm
noncomputable def mapD (w : World) (b : Nat) : TM := match w.heap[b]? with | some (.map es _) => .map ((es.toList.map (WideElems.rg Tryd.prog 9 (plainElem Tryd.prog 9))).foldr DataW.insert []) | _ => .map []
theorem mapD_is {w : World} {b n : Nat} {D : TM} (h : OwM w b n D) : mapD w b = D := by
  obtain ⟨es, clock, hh, F, hn, hD⟩ := h
  unfold mapD
  rw [hh, hD]
theorem keys_string {w : World} {b n : Nat} {D : TM} (h : OwM w b n D) : size D = (strKeys D).length ∧ (strKeys D).Nodup ∧ ∀ x ∈ strKeys D, has D (.string x) = true := by
  obtain ⟨es, hD, hpw, _⟩ := World.ownsMap.entries h keyS
  obtain ⟨es', hD', hko⟩ := World.ownsMap.keysOf h
  obtain rfl : es = es' := by rw [hD] at hD'; simpa using hD'
  subst hD
  have hk : ∀ p ∈ es, ∃ x, p.1 = .string x := fun p hp => by obtain ⟨v, hv⟩ := hko p hp; obtain ⟨x, _, hx, _⟩ := Maps.keyOf_str Tryd.underlying9 hv; exact ⟨x, hx⟩
  refine ⟨by show es.length = (es.map fun p => strOf p.1).length; simp, ?_, ?_⟩
  · show (es.map fun p => strOf p.1).Nodup
    refine List.pairwise_map.2 (hpw.imp_of_mem fun {p q} hp' hq' hne e => hne ?_)
    obtain ⟨a, ha⟩ := hk p hp'
    obtain ⟨b, hb⟩ := hk q hq'
    rw [ha, hb] at e ⊢
    exact congrArg _ e
  · intro x hx
    obtain ⟨p, hp, rfl⟩ := List.mem_map.1 hx
    obtain ⟨y, hy⟩ := hk p hp
    rw [Go.Maps.has_eq, List.any_eq_true]
    exact ⟨p, hp, by rw [hy]; simp [Lit.sameKey, strOf]⟩
theorem ginv_size {ws : List ByteArray} (hw : WBits ws) (hl : ws.length ≤ 16) {m : Nat} {w : World} {b n : Nat} {D : TM} (h : OwM w b n D) (hi : GInv ws m D) : size D ≤ 528 := by
  obtain ⟨h1, h2, h3⟩ := keys_string h
  have h4 := pigeon (strKeys D) (sufs ws) h2 (fun x hx => by
    have hh := h3 x hx
    have e : ent D x = some (txOf (D.atKey (.string x) (.lit (.string [])))) := by unfold ent; rw [hh]; rfl
    exact suf_mem hw hl (hi.2 _ _ e).1)
  have : (sufs ws).length = 528 := by unfold sufs; simp
  omega
theorem OwM.fit {ws : List ByteArray} (hw : WBits ws) (hl : ws.length ≤ 16) {m : Nat} {w : World} {b n : Nat} {D : TM} (h : OwM w b n D) (hi : GInv ws m D) : OwM w b 528 D := h.shrink (ginv_size hw hl h hi)

set_option maxRecDepth 100000 in
set_option maxHeartbeats 2000000 in
theorem sortedKeys_any (w : World) (b n : Nat) (D : TM) (hown : OwM w b n D) (hn : n ≤ 1024) :
    Calls Tryd.prog 57 #[.map (some b)] w fun e w' => ∃ (ks : List (List UInt8)) (g c : Nat), e = .returned (.slice (some ⟨g, 0, none⟩) ks.length c) ∧ (∀ x, x ∈ ks ↔ has D (.string x) = true) ∧ ks.length ≤ 1024 ∧
      w'.ownsRow w.heap.size 9 1 (.slice (some ⟨g, 0, none⟩) ks.length c) ks.length (ks.map encStr) ∧ Below w.heap.size w w' := by
  obtain ⟨i0, hi, hz0, hz1, hz2⟩ := info_parts info_strU
  have hbl := World.ownsMap.lt hown
  have hsz := World.ownsMap.size_le hown
  go_enter Tryd.func57, Tryd.ntmps57
  go_wp2_with (first
    | (at_range; refine wpList_range_own _ rfl _ 49 rfl 9 9 keyS Tryd.underlying49 _ b n D rfl (hown.alloc _) ?_; intro w0 hrg0 hg0 hs0)
    | go_in)
  go_frame
  have hrow1 : (w.alloc (.cells #[] 9)).ownsRow w.heap.size 9 1 (.slice (some ⟨w.heap.size, 0, none⟩) 0 0) 0 [] := World.ownsRow_made w #[] 0 (Nat.le_refl _) (Nat.zero_le _) rfl
  have hg1 : w.grownBy (w.alloc (.cells #[] 9)) none := World.grownBy_alloc _ _ _
  generalize w.alloc (.cells #[] 9) = w1 at *
  go_loopw [3] (fun v wr => ∃ (left : Lit → Bool) (cnt : Nat) (ss : List (List UInt8)), wr.ranges Tryd.prog 9 (plainElem Tryd.prog 9) b w1.heap.size n D left cnt ∧ ss.length + cnt ≤ n ∧
      wr.ownsRow w.heap.size 9 1 v ss.length (ss.map encStr) ∧ v ≠ .slice none 0 0 ∧ Collected D left ss ∧ Below w.heap.size w wr)
    (fun _ wr => wr.rangeLeft b w1.heap.size)
  case atStart =>
    exact ⟨_, _, [], hrg0, by simpa using hsz, hrow1.kept hg0 (Or.inr (by simp [Value.ownBlock])), by simp, Collected.start D,
      ((Below.refl _ _).grown hg1 (Nat.le_refl _) (fun j hj => by cases hj)).grown hg0 hg1.size (fun j hj => by cases hj)⟩
  case round =>
    obtain ⟨left, cnt, ss, hrg, hcs, hrow, hnn, hC, hnx⟩ := hrel
    go_wp2_with (first
      | (at_next; refine wpList_next_ranges _ rfl _ rfl 9 keyS (plainElem Tryd.prog 9) encStr encStr (fun key kl hk => by obtain ⟨x, hx, _⟩ := Maps.keyOf_str Tryd.underlying9 hk; exact ⟨x, hx⟩) (fun v y hv => by obtain ⟨c, rfl, _⟩ := plainS_inv hv; exact ⟨c, rfl⟩) b w1.heap.size n _ _ _ rfl hrg ?_ ?_)
      | go_in)
    · intro hc0 hl0
      rcases hrow.2 with ⟨hnil, _⟩ | ⟨g, cap, cur, rfl, hbase, hb, h1, h2, h3, h4⟩
      · exact absurd hnil hnn
      have hH : Sort.Holds encStr wr g 0 ss.toArray := holds_of_block hb (by simpa using h4)
      have hgl : g < wr.heap.size := (Array.getElem?_eq_some_iff.1 hb).1
      have hc := Tryd.slices_Sort_string g 0 cap ss wr hH hgl (by omega)
      go_wp2_with (go_at_call 74; refine hc.mono ?_; rintro e w' ⟨rfl, nn, os, rfl⟩)
      go_ret
      have hlen : (ss.mergeSort fun x y => decide (x ≤ y)).length = ss.length := by simp
      refine ⟨ss.mergeSort fun x y => decide (x ≤ y), g, cap, by rw [hlen]; rfl, fun x => ?_, by omega, ?_, hnx.grown (grownBy_sorted _) hnx.size (fun j hj => by cases hj; exact hbase)⟩
      · rw [List.mem_mergeSort, hC.2 x, hl0]; simp
      · rw [hlen]
        exact ownsRow_sorted hlen hbase hb h1 h2 h3
    · intro x c kl yd yp w2 cnt2 hkey hlk hv hat hrg2 hlt hg2 hs2 hen
      obtain ⟨x', ex, rfl, _⟩ := Maps.keyOf_str Tryd.underlying9 hkey
      obtain rfl : x = x' := encStr_inj ex
      have hrow2 := hrow.kept hg2 (Or.inr (row_ne_iter hrow hrg).symm)
      clear hs2
      go_wp2_with (first
        | (at_builtin; refine wpList_append_own _ rfl _ _ 24 rfl w.heap.size 9 i0 (.string ⟨#[]⟩) 1 16 Tryd.underlying24 hi hz0 hz1 hz2 rfl (by decide) _ _ _ rfl (hrow2.alloc _) ⟨w2.heap.size, 0, none⟩ 1 1 [encStr x] rfl rfl (cell_one_new _ _ _) (by simp [Value.oneCell', encStr]) (by unfold maxLen at *; omega) (by omega) (by have := hnx.size; have := hg2.size; simp; omega) ?_; intro v' w3 hown' hg3 hnil3; go_frame)
        | go_in)
      have hrg3 := (hrg2.alloc _).kept hg3 (row_ne_low hrow2 hbl) (row_ne_iter hrow2 hrg2)
      go_roundw
      case rel =>
        refine ⟨_, cnt2, ss ++ [x], hrg3, by simp; omega, by simpa using hown', fun hv' => by have := (hnil3.1 hv').2; omega, hC.step hlk hat, ?_⟩
        exact ((hnx.grown hg2 hnx.size (fun j hj => by cases hj; exact hg1.size)).alloc (by have := hnx.size; have := hg2.size; omega) _).grown hg3 (by have := hnx.size; have := hg2.size; simp; omega) (fun j hj => (hrow2.lt j hj).1)
      case measure => rw [hrg3.left_eq, hrg.left_eq]; exact hlt

end Go.Proofs.YtjobgobeiiakgaaDoor
