/- Plain predicates on slices and worlds that the walks of this seat use. -/
import Derived.Test.YtimhljcebeiofaaGreatDoorRows
import Derived.WalkKit
import Derived.WalkSpells
import Derived.WalkLawsBesides
import Derived.BigQuiet
import Derived.Deep.QuietTactic
import Derived.Deep.RegionWith
import Derived.Deep.LoopGhost
import Derived.Lib.Hide
namespace Go.Proofs.YtimhljcebeiofaaGreatDoor
set_option linter.unusedSimpArgs false
set_option linter.unusedVariables false
open Go.RowKit

section
variable (P : Program) (w : World) (a : Addr) (m : Mode)
theorem run_store_float (k : FloatKind) (n : Nat) : (store a (.float k n) m).run P w = stored P w a (.float k n) m := run_store P w a _ m rfl
theorem run_store_complex (k : FloatKind) (n i : Nat) : (store a (.complex k n i) m).run P w = stored P w a (.complex k n i) m := run_store P w a _ m rfl
end
attribute [go_sem] run_store_float run_store_complex

/-- 'v' is a slice of length 'xs.length' whose cells read 'xs' in 'w'. -/
def SlR (w : World) (v : Value) (xs : List Value) : Prop :=
  ∃ a c, v = .slice a xs.length c ∧ xs.length ≤ c ∧ c ≤ maxLen ∧ ∀ k u, xs[k]? = some u → ∃ b off, a = some ⟨b, off, none⟩ ∧ w.cell? ⟨b, off + k, none⟩ = some u

theorem SlR.below {w w' : World} {v : Value} {xs : List Value} (h : SlR w v xs) (hb : Below w.heap.size w w') : SlR w' v xs := by
  obtain ⟨a, c, h1, h2, h3, h4⟩ := h
  refine ⟨a, c, h1, h2, h3, fun k u hu => ?_⟩
  obtain ⟨b, off, ha, hc⟩ := h4 k u hu
  have hlt : b < w.heap.size := World.block_lt_of_cell? w _ hc
  exact ⟨b, off, ha, (hb.cell (p := ⟨b, off + k, none⟩) hlt).trans hc⟩

theorem SlR.nil (w : World) : SlR w (.slice none 0 0) [] := ⟨none, 0, rfl, Nat.le_refl _, Nat.zero_le _, fun k u hu => by simp at hu⟩

theorem SlR.own {w : World} {base : Nat} {e : TypeId} {v : Value} {n : Nat} {xs : List Value} (h : w.ownsRow base e 1 v n xs) : SlR w v xs := by
  obtain ⟨h1, h2⟩ := h
  have hl : xs.length = n := by simpa using h1
  rcases h2 with ⟨rfl, rfl⟩ | ⟨g, cap, cur, rfl, hb, hg, hnc, hcm, hcs, htake⟩
  · have hx : xs = [] := List.eq_nil_of_length_eq_zero hl
    subst hx
    exact SlR.nil w
  · refine ⟨some ⟨g, 0, none⟩, cap, by rw [hl], by omega, hcm, fun k u hu => ⟨g, 0, rfl, ?_⟩⟩
    rw [Nat.zero_add, cell_of_row w g k cur e (0, 0) hg]
    rw [← htake, List.getElem?_take] at hu
    split at hu
    · simpa using hu
    · cases hu

/-- What a slice of 'l.map f' gives to a walk: its shape, and each cell. -/
theorem SlR.opened {α : Type} {w : World} {v : Value} {l : List α} {f : α → Value} (d : α) (h : SlR w v (l.map f)) :
    ∃ a n c, v = .slice a n c ∧ l.length = n ∧ n ≤ c ∧ c ≤ maxLen ∧ ∀ k, k < n → ∃ b off, a = some ⟨b, off, none⟩ ∧ w.cell? ⟨b, off + k, none⟩ = some (f (l.getD k d)) ∧ b < w.heap.size := by
  obtain ⟨a, c, h1, h2, h3, h4⟩ := h
  rw [List.length_map] at h1 h2
  refine ⟨a, l.length, c, h1, rfl, h2, h3, fun k hk => ?_⟩
  obtain ⟨b, off, ha, hc⟩ := h4 k (f (l.getD k d)) (by simp [List.getElem?_eq_getElem hk, List.getD_eq_getElem?_getD])
  exact ⟨b, off, ha, hc, World.block_lt_of_cell? w _ hc⟩

/-- The integers of a list as values. -/
def ints (zs : List Int) : List Value := zs.map (Value.int .i64)
/-- The floats of a list (their bits) as values. -/
def flts (zs : List Nat) : List Value := zs.map (Value.float .f32)

theorem set_fill {α : Type} (l : List α) (f : α → Value) (z : Value) (d : α) (k : Nat) (hk : k < l.length) :
    ((l.take k).map f ++ List.replicate (l.length - k) z).set k (f (l.getD k d)) = (l.take (k + 1)).map f ++ List.replicate (l.length - (k + 1)) z := by
  have e : l.length - k = (l.length - (k + 1)) + 1 := by omega
  have hl : ((l.take k).map f).length = k := by simp; omega
  rw [e, List.replicate_succ, List.set_append_right _ _ (by omega), hl, Nat.sub_self, List.set_cons_zero, List.take_succ_eq_append_getElem hk, List.map_append, List.append_assoc, List.map_cons, List.map_nil, List.singleton_append,
    List.getD_eq_getElem?_getD, List.getElem?_eq_getElem hk, Option.getD_some]


/-- w' is w but for draws. -/
def Qu (w w' : World) : Prop := ∃ m, w' = w.drewN m
theorem Qu.refl (w : World) : Qu w w := ⟨0, rfl⟩
theorem Qu.trans {a b c : World} (h : Qu a b) (k : Qu b c) : Qu a c := by
  obtain ⟨m, rfl⟩ := h
  obtain ⟨n, rfl⟩ := k
  exact ⟨m + n, by rw [World.drewN_drewN]⟩
theorem Qu.drewN {a b : World} (h : Qu a b) (n : Nat) : Qu a (b.drewN n) := h.trans ⟨n, rfl⟩
theorem Qu.drew {a b : World} (h : Qu a b) : Qu a b.drew := h.trans ⟨1, rfl⟩
theorem Qu.below {w w' : World} (h : Qu w w') (B : Nat) : Below B w w' := by
  obtain ⟨m, rfl⟩ := h
  exact below_drewN (Below.refl _ _) m

theorem drop_cons_getD {α : Type} (l : List α) (k : Nat) (d : α) (h : k < l.length) : l.drop k = l.getD k d :: l.drop (k + 1) := by
  rw [List.drop_eq_getElem_cons h, List.getD_eq_getElem?_getD, List.getElem?_eq_getElem h, Option.getD_some]

theorem take_succ_same {α : Type} {xs ys : List α} {k : Nat} {d : α} (hp : xs.take k = ys.take k) (hx : k < xs.length) (hy : k < ys.length) (h : xs[k]?.getD d = ys[k]?.getD d) :
    xs.take (k + 1) = ys.take (k + 1) := by
  rw [List.take_succ_eq_append_getElem hx, List.take_succ_eq_append_getElem hy, hp]
  simp [List.getElem?_eq_getElem hx, List.getElem?_eq_getElem hy] at h
  rw [h]
theorem eq_of_take {α : Type} {xs ys : List α} {k : Nat} (hp : xs.take k = ys.take k) (hx : xs.length = k) (hy : ys.length = k) : xs = ys := by
  rw [List.take_of_length_le (by omega), List.take_of_length_le (by omega)] at hp
  exact hp
theorem ret_bool {a b : Bool} (h : a = b) : Ending.returned (.bool a) = .returned (.bool b) := by rw [h]
theorem ret_int {k : IntKind} {a b : Int} (h : a = b) : Ending.returned (.int k a) = .returned (.int k b) := by rw [h]

/-- What was there before, cell by cell. -/
theorem bcell {W w1 : World} (hb : Below W.heap.size W w1) : (∀ b o, b < W.heap.size → w1.cell? ⟨b, o, none⟩ = W.cell? ⟨b, o, none⟩) ∧ (∀ b o, b < W.heap.size → w1.frozen? ⟨b, o, none⟩ = W.frozen? ⟨b, o, none⟩) :=
  ⟨fun b o h => hb.cell (p := ⟨b, o, none⟩) h, fun b o h => hb.frozen (p := ⟨b, o, none⟩) h⟩

/-- The call hands back 'f' of a slice of its own that reads 'xs'; nothing that was there has turned. -/
def RetSl (w : World) (T : TypeId) (n : Nat) (xs : List Value) (f : Value → Value) (e : Ending) (w' : World) : Prop :=
  ∃ a c, e = .returned (f (.slice a n c)) ∧ w'.ownsRow w.heap.size T 1 (.slice a n c) n xs ∧ Below w.heap.size w w'
theorem RetSl.mk {w : World} {T : TypeId} {n : Nat} {xs : List Value} {f : Value → Value} {w' : World} {a : Option Addr} {c : Nat} (h : w'.ownsRow w.heap.size T 1 (.slice a n c) n xs) (hb : Below w.heap.size w w') :
    RetSl w T n xs f (.returned (f (.slice a n c))) w' := ⟨a, c, rfl, h, hb⟩
/-- What is owned from a higher block on is owned from a lower one on. -/
theorem ownsRow_base {w : World} {b b' : Nat} {e : TypeId} {s : Nat} {v : Value} {n : Nat} {xs : List Value} (h : w.ownsRow b e s v n xs) (hb : b' ≤ b) : w.ownsRow b' e s v n xs := by
  refine ⟨h.1, ?_⟩
  rcases h.2 with h2 | ⟨g, cap, cur, hv, hg, hh, r⟩
  · exact .inl h2
  · exact .inr ⟨g, cap, cur, hv, by omega, hh, r⟩
/-- What is owned stays owned while nothing that was there turns. -/
theorem ownsRow_below {w w' : World} {b : Nat} {e : TypeId} {s : Nat} {v : Value} {n : Nat} {xs : List Value} (h : w.ownsRow b e s v n xs) (hb : Below w.heap.size w w') : w'.ownsRow b e s v n xs := by
  refine ⟨h.1, ?_⟩
  rcases h.2 with h2 | ⟨g, cap, cur, hv, hg, hh, r⟩
  · exact .inl h2
  · exact .inr ⟨g, cap, cur, hv, hg, by rw [hb.block g (Array.getElem?_eq_some_iff.1 hh).1]; exact hh, r⟩

/-- W is w0 as far as w0 went. -/
def Fr (w0 W : World) : Prop := Below w0.heap.size w0 W
theorem Fr.refl (w : World) : Fr w w := Below.refl _ _
theorem Fr.step {w0 W W1 : World} (h : Fr w0 W) (hb : Below W.heap.size W W1) : Fr w0 W1 := Below.trans h (hb.mono h.size)
theorem Fr.drew {w0 W : World} (h : Fr w0 W) : Fr w0 W.drew := Below.drew h
theorem cell_step {W W1 : World} {a : Addr} {v : Value} (h : W.cell? a = some v) (hb : Below W.heap.size W W1) : W1.cell? a = some v :=
  (hb.cell (World.block_lt_of_cell? W a h)).trans h
theorem keep1 {w0 W W1 : World} {a1 : Addr} {v1 : Value} (h : W.cell? a1 = some v1 ∧ Fr w0 W) (hb : Below W.heap.size W W1) : W1.cell? a1 = some v1 ∧ Fr w0 W1 :=
  ⟨cell_step h.1 hb, h.2.step hb⟩
theorem keep2 {w0 W W1 : World} {a1 a2 : Addr} {v1 v2 : Value} (h : W.cell? a1 = some v1 ∧ W.cell? a2 = some v2 ∧ Fr w0 W) (hb : Below W.heap.size W W1) : W1.cell? a1 = some v1 ∧ W1.cell? a2 = some v2 ∧ Fr w0 W1 :=
  ⟨cell_step h.1 hb, keep1 h.2 hb⟩
theorem SlR.fr {w0 W : World} {v : Value} {xs : List Value} (h : SlR w0 v xs) (hf : Fr w0 W) : SlR W v xs := h.below hf

/-- The numbers k, k+1, .. -/
def marks (k : Int) : Nat → List Int
  | 0 => []
  | n + 1 => k :: marks (k + 1) n
theorem marks_length (n : Nat) : ∀ k, (marks k n).length = n := by
  induction n with
  | zero => intro k; rfl
  | succ n ih => intro k; simp [marks, ih]
theorem marks_getD (n : Nat) : ∀ (k : Int) (i : Nat), i < n → (marks k n)[i]?.getD 0 = k + i := by
  induction n with
  | zero => intro k i h; omega
  | succ n ih =>
    intro k i h
    cases i with
    | zero => simp [marks]
    | succ i => simp [marks, ih (k + 1) i (by omega)]; omega
theorem set_mark (k : Int) (i : Nat) (xs : List Value) (f : Int → Value) (hi : i < xs.length) :
    (((marks k i).map f) ++ xs.drop i).set i (f (k + i)) = ((marks k (i + 1)).map f) ++ xs.drop (i + 1) := by
  have hl : ((marks k i).map f).length = i := by simp [marks_length]
  rw [List.set_append_right _ _ (by omega), hl, Nat.sub_self, List.drop_eq_getElem_cons hi, List.set_cons_zero]
  have hs : marks k (i + 1) = marks k i ++ [k + (i : Int)] := by
    clear hl hi
    induction i generalizing k with
    | zero => simp [marks]
    | succ i ih =>
      rw [marks, ih (k + 1), marks, List.cons_append]
      congr 3
      omega
  rw [hs]
  simp
theorem grownBy_trans {a b c : World} {row : Option Nat} (h : a.grownBy b row) (k : b.grownBy c row) : a.grownBy c row :=
  ⟨k.os.trans h.os, k.tape.trans h.tape, k.output.trans h.output, Nat.le_trans h.size k.size, fun i hi hne => (k.block i (Nat.lt_of_lt_of_le hi h.size) hne).trans (h.block i hi hne)⟩

/-- n is an int64. -/
def I64 (n : Int) : Prop := -9223372036854775808 ≤ n ∧ n ≤ 9223372036854775807
/-- The call hands back 'f' of a slice that reads 'xs'; nothing that was there has turned. -/
def RetRd (w : World) (n : Nat) (xs : List Value) (f : Value → Value) (e : Ending) (w' : World) : Prop :=
  ∃ a c, e = .returned (f (.slice a n c)) ∧ SlR w' (.slice a n c) xs ∧ Below w.heap.size w w'
theorem RetSl.rd {w : World} {T : TypeId} {n : Nat} {xs : List Value} {f : Value → Value} {e : Ending} {w' : World} (h : RetSl w T n xs f e w') : RetRd w n xs f e w' := by
  obtain ⟨a, c, h1, h2, h3⟩ := h
  exact ⟨a, c, h1, SlR.own h2, h3⟩
theorem RetRd.mk {w : World} {n : Nat} {xs : List Value} {f : Value → Value} {w' : World} {a : Option Addr} {c : Nat} (h : SlR w' (.slice a n c) xs) (hb : Below w.heap.size w w') :
    RetRd w n xs f (.returned (f (.slice a n c))) w' := ⟨a, c, rfl, h, hb⟩
/-- A row that is written keeps what lies below its base. -/
theorem grown_below {W W' : World} {B : Nat} {e : TypeId} {s : Nat} {v : Value} {n : Nat} {xs : List Value} {B' : Nat} (hg : W.grownBy W' v.ownBlock) (ho : W.ownsRow B' e s v n xs) (hB : B ≤ B') (hW : B ≤ W.heap.size) : Below B W W' :=
  ⟨hg.os, hg.tape, hg.output, hg.size, fun k hk => hg.block k (by omega) (fun e => by have := (ho.lt k e.symm).1; omega)⟩
theorem Fr.grown {w0 W W' : World} {e : TypeId} {s : Nat} {v : Value} {n : Nat} {xs : List Value} {B' : Nat} (h : Fr w0 W) (hg : W.grownBy W' v.ownBlock) (ho : W.ownsRow B' e s v n xs) (hB : w0.heap.size ≤ B') : Fr w0 W' :=
  Below.trans h (grown_below hg ho hB h.size)
theorem own_apart {W W' : World} {e : TypeId} {s : Nat} {v u : Value} {n : Nat} {xs : List Value} {B : Nat} (ho : W.ownsRow B e s v n xs) (hg : W.grownBy W' u.ownBlock) (hu : ∀ k, u.ownBlock = some k → k < B) : W'.ownsRow B e s v n xs := by
  refine ho.kept hg ?_
  cases hv : v.ownBlock with
  | none => exact .inl rfl
  | some k =>
    refine .inr (fun e => ?_)
    have h1 := (ho.lt k hv).1
    have h2 := hu k e.symm
    omega
theorem cell_grown {W W' : World} {a : Addr} {x : Value} {u : Value} (h : W.cell? a = some x) (hg : W.grownBy W' u.ownBlock) (hu : ∀ k, u.ownBlock = some k → k ≠ a.block) : W'.cell? a = some x :=
  World.grownBy.cell hg h (fun e => hu _ e.symm rfl)
theorem keep3 {w0 W W1 : World} {a1 a2 a3 : Addr} {v1 v2 v3 : Value} (h : W.cell? a1 = some v1 ∧ W.cell? a2 = some v2 ∧ W.cell? a3 = some v3 ∧ Fr w0 W) (hb : Below W.heap.size W W1) : W1.cell? a1 = some v1 ∧ W1.cell? a2 = some v2 ∧ W1.cell? a3 = some v3 ∧ Fr w0 W1 :=
  ⟨cell_step h.1 hb, keep2 h.2 hb⟩
theorem keep4 {w0 W W1 : World} {a1 a2 a3 a4 : Addr} {v1 v2 v3 v4 : Value} (h : W.cell? a1 = some v1 ∧ W.cell? a2 = some v2 ∧ W.cell? a3 = some v3 ∧ W.cell? a4 = some v4 ∧ Fr w0 W) (hb : Below W.heap.size W W1) : W1.cell? a1 = some v1 ∧ W1.cell? a2 = some v2 ∧ W1.cell? a3 = some v3 ∧ W1.cell? a4 = some v4 ∧ Fr w0 W1 :=
  ⟨cell_step h.1 hb, keep3 h.2 hb⟩
theorem keep5 {w0 W W1 : World} {a1 a2 a3 a4 a5 : Addr} {v1 v2 v3 v4 v5 : Value} (h : World.cell? W a1 = some v1 ∧ World.cell? W a2 = some v2 ∧ World.cell? W a3 = some v3 ∧ World.cell? W a4 = some v4 ∧ World.cell? W a5 = some v5 ∧ Fr w0 W) (hb : Below W.heap.size W W1) : World.cell? W1 a1 = some v1 ∧ World.cell? W1 a2 = some v2 ∧ World.cell? W1 a3 = some v3 ∧ World.cell? W1 a4 = some v4 ∧ World.cell? W1 a5 = some v5 ∧ Fr w0 W1 :=
  ⟨cell_step h.1 hb, keep4 h.2 hb⟩
theorem keep6 {w0 W W1 : World} {a1 a2 a3 a4 a5 a6 : Addr} {v1 v2 v3 v4 v5 v6 : Value} (h : World.cell? W a1 = some v1 ∧ World.cell? W a2 = some v2 ∧ World.cell? W a3 = some v3 ∧ World.cell? W a4 = some v4 ∧ World.cell? W a5 = some v5 ∧ World.cell? W a6 = some v6 ∧ Fr w0 W) (hb : Below W.heap.size W W1) : World.cell? W1 a1 = some v1 ∧ World.cell? W1 a2 = some v2 ∧ World.cell? W1 a3 = some v3 ∧ World.cell? W1 a4 = some v4 ∧ World.cell? W1 a5 = some v5 ∧ World.cell? W1 a6 = some v6 ∧ Fr w0 W1 :=
  ⟨cell_step h.1 hb, keep5 h.2 hb⟩
theorem keep7 {w0 W W1 : World} {a1 a2 a3 a4 a5 a6 a7 : Addr} {v1 v2 v3 v4 v5 v6 v7 : Value} (h : World.cell? W a1 = some v1 ∧ World.cell? W a2 = some v2 ∧ World.cell? W a3 = some v3 ∧ World.cell? W a4 = some v4 ∧ World.cell? W a5 = some v5 ∧ World.cell? W a6 = some v6 ∧ World.cell? W a7 = some v7 ∧ Fr w0 W) (hb : Below W.heap.size W W1) : World.cell? W1 a1 = some v1 ∧ World.cell? W1 a2 = some v2 ∧ World.cell? W1 a3 = some v3 ∧ World.cell? W1 a4 = some v4 ∧ World.cell? W1 a5 = some v5 ∧ World.cell? W1 a6 = some v6 ∧ World.cell? W1 a7 = some v7 ∧ Fr w0 W1 :=
  ⟨cell_step h.1 hb, keep6 h.2 hb⟩
theorem keep8 {w0 W W1 : World} {a1 a2 a3 a4 a5 a6 a7 a8 : Addr} {v1 v2 v3 v4 v5 v6 v7 v8 : Value} (h : World.cell? W a1 = some v1 ∧ World.cell? W a2 = some v2 ∧ World.cell? W a3 = some v3 ∧ World.cell? W a4 = some v4 ∧ World.cell? W a5 = some v5 ∧ World.cell? W a6 = some v6 ∧ World.cell? W a7 = some v7 ∧ World.cell? W a8 = some v8 ∧ Fr w0 W) (hb : Below W.heap.size W W1) : World.cell? W1 a1 = some v1 ∧ World.cell? W1 a2 = some v2 ∧ World.cell? W1 a3 = some v3 ∧ World.cell? W1 a4 = some v4 ∧ World.cell? W1 a5 = some v5 ∧ World.cell? W1 a6 = some v6 ∧ World.cell? W1 a7 = some v7 ∧ World.cell? W1 a8 = some v8 ∧ Fr w0 W1 :=
  ⟨cell_step h.1 hb, keep7 h.2 hb⟩
theorem keep9 {w0 W W1 : World} {a1 a2 a3 a4 a5 a6 a7 a8 a9 : Addr} {v1 v2 v3 v4 v5 v6 v7 v8 v9 : Value} (h : World.cell? W a1 = some v1 ∧ World.cell? W a2 = some v2 ∧ World.cell? W a3 = some v3 ∧ World.cell? W a4 = some v4 ∧ World.cell? W a5 = some v5 ∧ World.cell? W a6 = some v6 ∧ World.cell? W a7 = some v7 ∧ World.cell? W a8 = some v8 ∧ World.cell? W a9 = some v9 ∧ Fr w0 W) (hb : Below W.heap.size W W1) : World.cell? W1 a1 = some v1 ∧ World.cell? W1 a2 = some v2 ∧ World.cell? W1 a3 = some v3 ∧ World.cell? W1 a4 = some v4 ∧ World.cell? W1 a5 = some v5 ∧ World.cell? W1 a6 = some v6 ∧ World.cell? W1 a7 = some v7 ∧ World.cell? W1 a8 = some v8 ∧ World.cell? W1 a9 = some v9 ∧ Fr w0 W1 :=
  ⟨cell_step h.1 hb, keep8 h.2 hb⟩
theorem keep10 {w0 W W1 : World} {a1 a2 a3 a4 a5 a6 a7 a8 a9 a10 : Addr} {v1 v2 v3 v4 v5 v6 v7 v8 v9 v10 : Value} (h : World.cell? W a1 = some v1 ∧ World.cell? W a2 = some v2 ∧ World.cell? W a3 = some v3 ∧ World.cell? W a4 = some v4 ∧ World.cell? W a5 = some v5 ∧ World.cell? W a6 = some v6 ∧ World.cell? W a7 = some v7 ∧ World.cell? W a8 = some v8 ∧ World.cell? W a9 = some v9 ∧ World.cell? W a10 = some v10 ∧ Fr w0 W) (hb : Below W.heap.size W W1) : World.cell? W1 a1 = some v1 ∧ World.cell? W1 a2 = some v2 ∧ World.cell? W1 a3 = some v3 ∧ World.cell? W1 a4 = some v4 ∧ World.cell? W1 a5 = some v5 ∧ World.cell? W1 a6 = some v6 ∧ World.cell? W1 a7 = some v7 ∧ World.cell? W1 a8 = some v8 ∧ World.cell? W1 a9 = some v9 ∧ World.cell? W1 a10 = some v10 ∧ Fr w0 W1 :=
  ⟨cell_step h.1 hb, keep9 h.2 hb⟩
theorem Qu.keep {w w' : World} (h : Qu w w') : Below w.heap.size w w' := h.below _
theorem ownsRow_shape {w : World} {b : Nat} {e : TypeId} {s : Nat} {v : Value} {n : Nat} {xs : List Value} (h : w.ownsRow b e s v n xs) : ∃ a c, v = .slice a n c := by
  rcases h.2 with ⟨rfl, rfl⟩ | ⟨g, cap, cur, rfl, _⟩
  · exact ⟨none, 0, rfl⟩
  · exact ⟨_, _, rfl⟩
theorem RetSl.of {w : World} {T : TypeId} {n : Nat} {xs : List Value} {f : Value → Value} {w' : World} {v : Value} (h : w'.ownsRow w.heap.size T 1 v n xs) (hb : Below w.heap.size w w') :
    RetSl w T n xs f (.returned (f v)) w' := by
  obtain ⟨a, c, rfl⟩ := ownsRow_shape h
  exact ⟨a, c, rfl, h, hb⟩
theorem own_grown_lt {w : World} {b : Nat} {e : TypeId} {s : Nat} {v : Value} {n : Nat} {xs : List Value} (h : w.ownsRow b e s v n xs) : ∀ k, v.ownBlock = some k → b ≤ k := fun k hk => (h.lt k hk).1
theorem one_oneCell {u : Value} (h : u.oneCell' = true) : ∀ x ∈ [u], x.oneCell' = true := by
  intro x hx
  rw [List.mem_singleton] at hx
  rw [hx]; exact h
/-- The frame behind an append to a row of the call's own. -/
theorem app_below {B B' : Nat} {w wr w1 : World} {e : TypeId} {s : Nat} {v : Value} {n : Nat} {xs : List Value} (hb : Below B w wr) (hB : B ≤ wr.heap.size) (o : Obj) (hg : (wr.alloc o).grownBy w1 v.ownBlock) (hown : wr.ownsRow B' e s v n xs) (hBB : B ≤ B') : Below B w w1 :=
  (Below.alloc hb hB o).grown hg (by simp only [World.size_alloc]; omega) (fun k hk => Nat.le_trans hBB (own_grown_lt hown k hk))
/-- A row stays while another one, which lies in later blocks, is appended to. -/
theorem list_keep {B g n c m m' : Nat} {e e' : TypeId} {s s' : Nat} {wr w1 : World} {u : Value} {xs ys : List Value} (ho : wr.ownsRow B e s (.slice (some ⟨g, 0, none⟩) n c) m xs) (o : Obj) (hg : (wr.alloc o).grownBy w1 u.ownBlock) (hu : wr.ownsRow (g + 1) e' s' u m' ys) :
    w1.ownsRow B e s (.slice (some ⟨g, 0, none⟩) n c) m xs :=
  (ho.alloc o).kept hg (.inr (fun e => by have := own_grown_lt hu g e.symm; omega))
theorem out_keep {g m : Nat} {e : TypeId} {s : Nat} {wr w1 : World} {u : Value} {xs : List Value} (ho : wr.ownsRow (g + 1) e s u m xs) (hg : wr.grownBy w1 (some g)) : w1.ownsRow (g + 1) e s u m xs :=
  own_apart (u := .slice (some ⟨g, 0, none⟩) 0 0) ho hg (fun k hk => by simp [Value.ownBlock] at hk; omega)
theorem own_some {w : World} {b : Nat} {e : TypeId} {s : Nat} {a : Option Addr} {n c : Nat} {xs : List Value} (h : w.ownsRow b e s (.slice a n c) n xs) (hn : 0 < n) : ∃ g, a = some ⟨g, 0, none⟩ ∧ b ≤ g ∧ g < w.heap.size := by
  rcases h.2 with ⟨h1, h2⟩ | ⟨g, cap, cur, h1, hb, hg, _⟩
  · omega
  · simp only [Value.slice.injEq] at h1
    exact ⟨g, h1.1, hb, (Array.getElem?_eq_some_iff.1 hg).1⟩

end Go.Proofs.YtimhljcebeiofaaGreatDoor
