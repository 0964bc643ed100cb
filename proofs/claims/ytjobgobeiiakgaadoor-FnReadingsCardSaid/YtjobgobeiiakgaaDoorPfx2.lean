/- Words of which none is the beginning of another: the map of rests. -/
import Derived.Test.YtjobgobeiiakgaaDoorPfx
namespace Go.Proofs.YtjobgobeiiakgaaDoor
set_option linter.unusedSimpArgs false
set_option linter.unusedVariables false
open Go.RowKit
open Go.Maps (Keyed Tidy IsMap has size)

abbrev TM := DataW Unit
/-- The text in a datum. -/
def txOf : TM → List UInt8 | .lit (.string s) => s | _ => []
abbrev OwM (w : World) (b n : Nat) (D : TM) : Prop := w.ownsMap Tryd.prog 9 (plainElem Tryd.prog 9) b n D
theorem keyS : Keyed Tryd.prog 9 := Go.Maps.string_keyed Tryd.underlying9
theorem zeroS (w : World) : (zeroValue 9).run Tryd.prog w = .ok (.string ⟨#[]⟩) w := by kernel_rfl
theorem keyS_mk (u : List UInt8) (hu : u.length ≤ 1048576) : keyOf Tryd.prog 9 (.string ⟨u.toArray⟩) = some (.string u) := by
  have h := Go.WideMaps.keyOf_string_mk (P := Tryd.prog) (k := 9) Tryd.underlying9 (s := ⟨u.toArray⟩) (by show u.toArray.size ≤ maxLen; unfold maxLen; simp; omega)
  simpa using h
theorem plainS (u : List UInt8) (hu : u.length ≤ 1048576) : plainElem (H := Unit) Tryd.prog 9 (.string ⟨u.toArray⟩) = some (.lit (.string u), []) := by
  have h := plainElem_string (H := Unit) (P := Tryd.prog) (e := 9) Tryd.underlying9 (s := ⟨u.toArray⟩) (by show u.toArray.size ≤ maxLen; unfold maxLen; simp; omega)
  simpa using h
theorem plain_string_inv {P : Program} {e : TypeId} (he : P.underlying e = some .string) {v : Value} {z : TM × List MemPlace} (h : plainElem (H := Unit) P e v = some z) : ∃ s : ByteArray, v = .string s ∧ z = (.lit (.string s.data.toList), []) := by
  unfold plainElem at h
  rw [he] at h
  cases v <;> simp only [reduceCtorEq] at h
  rename_i s
  split at h
  · cases h; exact ⟨s, rfl, rfl⟩
  · cases h
theorem plainS_inv {v : Value} {z : TM × List MemPlace} (h : plainElem (H := Unit) Tryd.prog 9 v = some z) : ∃ s : List UInt8, v = .string ⟨s.toArray⟩ ∧ z = (.lit (.string s), []) := by
  obtain ⟨s, rfl, rfl⟩ := plain_string_inv Tryd.underlying9 h
  exact ⟨s.data.toList, by rw [ba_eta], rfl⟩
theorem OwM.look {w : World} {b n : Nat} {D : TM} (h : OwM w b n D) (u : List UInt8) (hu : u.length ≤ 1048576) :
    ∃ s : List UInt8, (Instr.lookup 49 (.map (some b)) (.string ⟨u.toArray⟩) true).run Tryd.prog w = .ok (.tuple #[.string ⟨s.toArray⟩, .bool (has D (.string u))]) w ∧ D.atKey (.string u) (.lit (.string [])) = .lit (.string s) := by
  obtain ⟨v, ps, hrun, hv⟩ := World.ownsMap.look_ok h keyS Tryd.underlying49 (zeroS w) (plainS [] (Nat.zero_le _)) (keyS_mk u hu)
  obtain ⟨s, rfl, hz⟩ := plainS_inv hv
  exact ⟨s, hrun, congrArg Prod.fst hz⟩
theorem OwM.put {w : World} {b n : Nat} {D : TM} (h : OwM w b n D) (hn : n ≤ 1048576) (u s : List UInt8) (hu : u.length ≤ 1048576) (hs : s.length ≤ 1048576) :
    ∃ w', (Instr.mapUpdate 49 (.map (some b)) (.string ⟨u.toArray⟩) (.string ⟨s.toArray⟩)).run Tryd.prog w = .ok () w' ∧ OwM w' b (n + 1) (D.put (.string u) (.lit (.string s))) ∧ w.mapTurned w' b :=
  World.ownsMap.store h keyS Tryd.underlying49 (by unfold maxLen; omega) (keyS_mk u hu) (plainS s hs)
/-- A text comes before another one. -/
def bef (a b : List UInt8) : Bool := decide (a.length < b.length) || (decide (a.length = b.length) && Op.bytesLess a b)
def lowC (D : TM) (u s : List UInt8) : Bool := !has D (.string u) || bef s (txOf (D.atKey (.string u) (.lit (.string []))))
def lowD (D : TM) (u s : List UInt8) : TM := if lowC D u s then D.put (.string u) (.lit (.string s)) else D
theorem has_pos {D : TM} {k : Lit} (h : has D k = true) : 1 ≤ size D := by
  cases D <;> simp only [has, Bool.false_eq_true] at h
  rename_i es
  cases es
  · simp at h
  · show 1 ≤ List.length _; simp
theorem lowD_inv {D : TM} (h : Tidy D) (u s : List UInt8) : Tidy (lowD D u s) ∧ size D ≤ size (lowD D u s) ∧ 1 ≤ size (lowD D u s) := by
  have hp := Go.Maps.size_put (k := .string u) h (.lit (.string s))
  unfold lowD
  cases hh : has D (.string u)
  · rw [hh] at hp
    simp only [Bool.false_eq_true, if_false] at hp
    rw [if_pos (by unfold lowC; rw [hh]; rfl)]
    exact ⟨h.put (k := .string u) trivial _, by omega, by omega⟩
  · rw [hh] at hp
    simp only [if_true] at hp
    have h1 := has_pos hh
    split
    · exact ⟨h.put (k := .string u) trivial _, by omega, by omega⟩
    · exact ⟨h, Nat.le_refl _, h1⟩
def frI (ws : List ByteArray) (i : Nat) (D : TM) (k : Nat) : TM := if pfx ws i k then lowD D ((wbx ws k).drop (wbx ws i).length) (wbx ws k) else D
def frR (ws : List ByteArray) (i : Nat) (D : TM) : Nat → TM
  | 0 => D
  | k + 1 => frI ws i (frR ws i D k) k
def frA (ws : List ByteArray) : Nat → TM
  | 0 => .map []
  | i + 1 => frR ws i (frA ws i) ws.length
theorem frR_inv (ws : List ByteArray) (i : Nat) (D : TM) (h : Tidy D) : ∀ k, Tidy (frR ws i D k) ∧ size D ≤ size (frR ws i D k) ∧ ((∃ j, j < k ∧ pfx ws i j = true) → 1 ≤ size (frR ws i D k)) ∧ ((∀ j, j < k → pfx ws i j = false) → frR ws i D k = D)
  | 0 => ⟨h, Nat.le_refl _, fun ⟨j, hj, _⟩ => by omega, fun _ => rfl⟩
  | k + 1 => by
    obtain ⟨h1, h2, h3, h4⟩ := frR_inv ws i D h k
    show Tidy (frI ws i (frR ws i D k) k) ∧ size D ≤ size (frI ws i (frR ws i D k) k) ∧ (_ → 1 ≤ size (frI ws i (frR ws i D k) k)) ∧ (_ → frI ws i (frR ws i D k) k = D)
    unfold frI
    cases hp : pfx ws i k
    · rw [if_neg Bool.false_ne_true]
      refine ⟨h1, h2, fun ⟨j, hj, hjp⟩ => h3 ⟨j, ?_, hjp⟩, fun ha => h4 fun j hj => ha j (by omega)⟩
      by_cases he : j = k
      · rw [he, hp] at hjp; cases hjp
      · omega
    · rw [if_pos rfl]
      obtain ⟨g1, g2, g3⟩ := lowD_inv h1 ((wbx ws k).drop (wbx ws i).length) (wbx ws k)
      exact ⟨g1, Nat.le_trans h2 g2, fun _ => g3, fun ha => by rw [ha k (by omega)] at hp; cases hp⟩
theorem frA_inv (ws : List ByteArray) : ∀ i, Tidy (frA ws i) ∧ ((∃ a, a < i ∧ ∃ j, j < ws.length ∧ pfx ws a j = true) → 1 ≤ size (frA ws i)) ∧ ((∀ a, a < i → ∀ j, j < ws.length → pfx ws a j = false) → frA ws i = .map [])
  | 0 => ⟨Go.Maps.tidy_empty, fun ⟨j, hj, _⟩ => by omega, fun _ => rfl⟩
  | i + 1 => by
    obtain ⟨h1, h2, h3⟩ := frA_inv ws i
    obtain ⟨g1, g2, g3, g4⟩ := frR_inv ws i (frA ws i) h1 ws.length
    refine ⟨g1, fun ⟨a, ha, j, hj, hp⟩ => ?_, fun hall => ?_⟩
    · show 1 ≤ size (frR ws i (frA ws i) ws.length)
      by_cases he : a = i
      · subst he; exact g3 ⟨j, hj, hp⟩
      · exact Nat.le_trans (h2 ⟨a, by omega, j, hj, hp⟩) g2
    · show frR ws i (frA ws i) ws.length = _
      rw [g4 (fun j hj => hall i (by omega) j hj)]
      exact h3 fun a ha => hall a (by omega)
theorem frA_size (ws : List ByteArray) : (anyP ws = true → 1 ≤ size (frA ws ws.length)) ∧ (anyP ws = false → size (frA ws ws.length) = 0) := by
  obtain ⟨-, h2, h3⟩ := frA_inv ws ws.length
  constructor
  · intro h
    unfold anyP at h
    rw [List.any_eq_true] at h
    obtain ⟨i, hi, h⟩ := h
    rw [List.any_eq_true] at h
    obtain ⟨k, hk, h⟩ := h
    exact h2 ⟨i, by simpa using hi, k, by simpa using hk, h⟩
  · intro h
    rw [h3]
    · rfl
    · intro i hi k hk
      cases hp : pfx ws i k
      · rfl
      · rw [anyP_yes rfl hi hk hp] at h; cases h

theorem isBefore_any (a b : List UInt8) (w : World) :
    Calls Tryd.prog 73 #[.string ⟨a.toArray⟩, .string ⟨b.toArray⟩] w fun e w' => e = .returned (.bool (bef a b)) ∧ w = w' := by
  by_cases h1 : a.length < b.length
  · have HR : Hid (bef a b = true) := by show _ = _; unfold bef; rw [decide_eq_true h1]; rfl
    have k1 : (a.length : Int) < (b.length : Int) := by omega
    go_enter Tryd.func73, Tryd.ntmps73
    go_wp2
    go_ret
    exact ⟨ret_bool HR.out.symm, rfl⟩
  · by_cases h2 : a.length = b.length
    · have HR : Hid (bef a b = Op.bytesLess a b) := by show _ = _; unfold bef; rw [decide_eq_false h1, decide_eq_true h2]; rfl
      have k1 : ¬ (a.length : Int) < (b.length : Int) := by omega
      have k2 : (a.length : Int) = (b.length : Int) := by omega
      go_enter Tryd.func73, Tryd.ntmps73
      go_wp2
      go_ret
      exact ⟨ret_bool HR.out.symm, rfl⟩
    · have HR : Hid (bef a b = false) := by show _ = _; unfold bef; rw [decide_eq_false h1, decide_eq_false h2]; rfl
      have k1 : ¬ (a.length : Int) < (b.length : Int) := by omega
      have k2 : ¬ (a.length : Int) = (b.length : Int) := by omega
      go_enter Tryd.func73, Tryd.ntmps73
      go_wp2
      go_ret
      exact ⟨ret_bool HR.out.symm, rfl⟩

set_option maxRecDepth 100000 in
set_option maxHeartbeats 1000000 in
theorem lower_any (w : World) (b n : Nat) (D : TM) (hm : OwM w b n D) (hn : n ≤ 1048576) (u s : List UInt8) (hu : u.length ≤ 1048576) (hs : s.length ≤ 1048576) :
    Calls Tryd.prog 56 #[.map (some b), .string ⟨u.toArray⟩, .string ⟨s.toArray⟩] w fun e w' => e = .returned (.bool (lowC D u s)) ∧ OwM w' b (n + 1) (lowD D u s) ∧ w.mapTurned w' b := by
  obtain ⟨o, hrun, hat⟩ := hm.look u hu
  obtain ⟨w2, hput, hm2, ht2⟩ := hm.put hn u s hu hs
  have HM2 := Lib.hid hm2
  have HT2 := Lib.hid ht2
  have HM := Lib.hid (World.ownsMap.mono hm (Nat.le_succ n))
  have HT := Lib.hid (World.ownsMap.turned_refl hm)
  have HIB := Lib.hid (isBefore_any s o w)
  have HC : Hid (lowC D u s = (!has D (.string u) || bef s o)) := by show _ = _; unfold lowC; rw [hat]; rfl
  have HD : Hid (lowD D u s = if lowC D u s then D.put (.string u) (.lit (.string s)) else D) := Lib.hid rfl
  clear hm2 ht2 hm hat
  generalize has D (.string u) = t at *
  cases t
  · have HC1 : Hid (lowC D u s = true) := by show _ = _; rw [HC.out]; rfl
    have HD1 : Hid (lowD D u s = D.put (.string u) (.lit (.string s))) := by show _ = _; rw [HD.out, HC1.out]; rfl
    go_enter Tryd.func56, Tryd.ntmps56
    go_wp2
    go_ret
    exact ⟨ret_bool HC1.out.symm, by rw [HD1.out]; exact HM2.out, HT2.out⟩
  · cases hb : bef s o
    · have HC1 : Hid (lowC D u s = false) := by show _ = _; rw [HC.out, hb]; rfl
      have HD1 : Hid (lowD D u s = D) := by show _ = _; rw [HD.out, HC1.out]; rfl
      rw [hb] at HIB
      clear hb
      go_enter Tryd.func56, Tryd.ntmps56
      go_wp2_with (go_at_call 73; refine HIB.out.mono ?_; rintro e w1 ⟨rfl, rfl⟩)
      go_ret
      exact ⟨ret_bool HC1.out.symm, by rw [HD1.out]; exact HM.out, HT.out⟩
    · have HC1 : Hid (lowC D u s = true) := by show _ = _; rw [HC.out, hb]; rfl
      have HD1 : Hid (lowD D u s = D.put (.string u) (.lit (.string s))) := by show _ = _; rw [HD.out, HC1.out]; rfl
      rw [hb] at HIB
      clear hb
      go_enter Tryd.func56, Tryd.ntmps56
      go_wp2_with (go_at_call 73; refine HIB.out.mono ?_; rintro e w1 ⟨rfl, rfl⟩)
      go_ret
      exact ⟨ret_bool HC1.out.symm, by rw [HD1.out]; exact HM2.out, HT2.out⟩

end Go.Proofs.YtjobgobeiiakgaaDoor
