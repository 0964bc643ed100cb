/- strings.Builder: WriteString, out of the laying of strings.Repeat (the same closure). -/
import Derived.Test.YtjobgobeiiakgaaDoorMRic
namespace Go.Proofs.YtjobgobeiiakgaaDoor
set_option linter.unusedSimpArgs false
set_option linter.unusedVariables false
open Go.RowKit

theorem lays166 : Go.Proofs.Lays.n166 Tryd.prog Tryd.lays105_ren := {
  mixed := Tryd.lays105.mixed
  f166 := Tryd.lays105.f166
  f240 := Tryd.lays105.f240
  f276 := Tryd.lays105.f276
  t0 := Tryd.lays105.t0
  a0 := Tryd.lays105.a0
  z0 := Tryd.lays105.z0
  v0 := Tryd.lays105.v0
  t3 := Tryd.lays105.t3
  a3 := Tryd.lays105.a3
  z3 := Tryd.lays105.z3
  v3 := Tryd.lays105.v3
  t4 := Tryd.lays105.t4
  a4 := Tryd.lays105.a4
  z4 := Tryd.lays105.z4
  v4 := Tryd.lays105.v4
  t9 := Tryd.lays105.t9
  a9 := Tryd.lays105.a9
  z9 := Tryd.lays105.z9
  v9 := Tryd.lays105.v9
  t20 := Tryd.lays105.t20
  a20 := Tryd.lays105.a20
  z20 := Tryd.lays105.z20
  v20 := Tryd.lays105.v20
  t37 := Tryd.lays105.t37
  a37 := Tryd.lays105.a37
  z37 := Tryd.lays105.z37
  v37 := Tryd.lays105.v37
  t70 := Tryd.lays105.t70
  a70 := Tryd.lays105.a70
  z70 := Tryd.lays105.z70
  v70 := Tryd.lays105.v70
  t72 := Tryd.lays105.t72
  a72 := Tryd.lays105.a72
  z72 := Tryd.lays105.z72
  v72 := Tryd.lays105.v72
  t75 := Tryd.lays105.t75
  a75 := Tryd.lays105.a75
  z75 := Tryd.lays105.z75
  v75 := Tryd.lays105.v75
  t164 := Tryd.lays105.t164
  a164 := Tryd.lays105.a164
  z164 := Tryd.lays105.z164
  v164 := Tryd.lays105.v164 }
theorem writeString_any (B b : Nat) (bs : List Value) (s : ByteArray) (w : World) (h : Lib.IsBuilder 67 5 B b bs w) (hlen : bs.length + s.size ≤ 140737488355328) (hBw : B ≤ w.heap.size) :
    Calls Tryd.prog 43 #[.pointer (some ⟨b, 0, none⟩), .string s] w fun e w' => e = .returned (.tuple #[.int .i64 s.size, .nilIface]) ∧ (Lib.BuilderAt 67 5 B b (.pointer (some ⟨b, 0, none⟩)) (bs ++ Lib.strCells s) w' ∧ Below B w w') :=
  Any.Builder_WriteString lays166 Tryd.Builder_Extra_105 B b bs s w h hlen hBw

theorem bld_below {T e : TypeId} {B b : Nat} {p : Value} {bs : List Value} {w w' : World} (h : Lib.BuilderAt T e B b p bs w) (hb : Below w.heap.size w w') : Lib.BuilderAt T e B b p bs w' := by
  have hl := h.lt
  obtain ⟨hB, v, hbk, hown, hne⟩ := h
  exact ⟨hB, v, by rw [hb.block b hl]; exact hbk, ownsRow_below hown hb, hne⟩
theorem isb_below {T e : TypeId} {B b : Nat} {bs : List Value} {w w' : World} (h : Lib.IsBuilder T e B b bs w) (hb : Below w.heap.size w w') : Lib.IsBuilder T e B b bs w' :=
  h.elim (fun x => .inl (bld_below x hb)) (fun x => .inr (bld_below x hb))
theorem byteCells_add (a b : List UInt8) : Lib.byteCells a ++ Lib.strCells ⟨b.toArray⟩ = Lib.byteCells (a ++ b) := by
  simp [Lib.byteCells, Lib.strCells]

def btL (b : Bool) : Nat → Bool
  | 0 => b
  | k + 1 => !(btL b k)
theorem btL_eq (b : Bool) : ∀ k : Nat, (b == (k % 2 == 0)) = btL b k
  | 0 => by cases b <;> rfl
  | k + 1 => by
    have h := btL_eq b k
    show _ = !(btL b k)
    rw [← h]
    rcases Nat.mod_two_eq_zero_or_one k with h2 | h2 <;> rw [h2, show (k + 1) % 2 = _ from by rw [Nat.add_mod, h2]] <;> cases b <;> rfl
def runP (b : Bool) (xs : List Int) : Nat → List UInt8
  | 0 => []
  | k + 1 => runP b xs k ++ List.replicate (xs[k]?.getD 0).toNat (if btL b k then 49 else 48)
theorem runP_mono (b : Bool) (xs : List Int) (k : Nat) : ∀ j, (runP b xs k).length ≤ (runP b xs (k + j)).length
  | 0 => Nat.le_refl _
  | j + 1 => by
    have := runP_mono b xs k j
    rw [show k + (j + 1) = (k + j) + 1 from rfl, runP, List.length_append]
    omega
theorem runP_bd (b : Bool) (xs : List Int) (ha : xs.all (fun n => inB n 1 512) = true) : ∀ k, k ≤ xs.length → (runP b xs k).length ≤ 512 * k
  | 0, _ => Nat.le_refl _
  | k + 1, h => by
    have h1 := runP_bd b xs ha k (by omega)
    have h2 : inB (xs[k]?.getD 0) 1 512 = true := by
      rw [List.getElem?_eq_getElem (by omega)]
      exact (List.all_eq_true.1 ha) _ (List.getElem_mem (by omega))
    have h3 := inB_true h2
    rw [runP, List.length_append, List.length_replicate]
    omega
def runsOk (xs : List Int) : Bool := decide (xs.length ≤ 512) && xs.all (fun n => inB n 1 512)
def cap512 (l : List UInt8) : ByteArray × Bool := (if l.length ≤ 512 then ⟨l.toArray⟩ else ⟨#[]⟩, decide (l.length ≤ 512))
theorem cap512_yes {l : List UInt8} (h : l.length ≤ 512) : cap512 l = (⟨l.toArray⟩, true) := by simp [cap512, h]
theorem cap512_no {l : List UInt8} (h : ¬ l.length ≤ 512) : cap512 l = (⟨#[]⟩, false) := by simp [cap512, h]
def out_BitsOfRuns (b : Bool) (xs : List Int) : ByteArray × Bool := if runsOk xs then cap512 (runP b xs xs.length) else (⟨#[]⟩, false)

set_option maxHeartbeats 1000000 in
theorem impl_BitsOfRuns (w : World) (b : Bool) (v : Value) (xs : List Int) (hv : SlR w v (xs.map (Value.int .i64))) (_ : ∀ x ∈ xs, I64 x) (_ : xs.length ≤ 1048576) :
    Calls Tryd.prog 19 #[.bool b, v] w fun e w' => e = .returned (.tuple #[.string (out_BitsOfRuns b xs).1, .bool (out_BitsOfRuns b xs).2]) ∧ Below w.heap.size w w' := by
  obtain ⟨a, n, c, rfl, hnl, hnc, hcm, hcell⟩ := SlR.opened 0 hv
  unfold maxLen at hcm
  have hn9 : n ≤ 9223372036854775807 := by omega
  have HN := Lib.hid hnl
  have HC := Lib.hid hcell
  clear hcell hcm hnc
  by_cases h5 : n ≤ 512
  · have h6 : ¬ (512 : Int) < (n : Int) := by omega
    generalize ht : xs.all (fun n => inB n 1 512) = t
    have HT := Lib.hid ht
    cases t
    · rw [show out_BitsOfRuns b xs = (⟨#[]⟩, false) by simp [out_BitsOfRuns, runsOk, ht]]
      clear ht
      go_enter Tryd.func19, Tryd.ntmps19
      go_wp2_with (go_at_call 42; refine (areWithin_any _ xs 1 512 _ hv).mono ?_; rw [HT.out]; rintro e w' ⟨rfl, rfl⟩)
      go_ret2
      exact ⟨rfl, Below.refl _ _⟩
    · rw [show out_BitsOfRuns b xs = cap512 (runP b xs n) by simp [out_BitsOfRuns, runsOk, ht, hnl, h5]]
      have HBD := Lib.hid (runP_bd b xs ht)
      have HAL : Hid (∀ k, k < n → 1 ≤ xs[k]?.getD 0 ∧ xs[k]?.getD 0 ≤ 512) := by
        intro k hk
        rw [← hnl] at hk
        rw [List.getElem?_eq_getElem hk]
        exact inB_true ((List.all_eq_true.1 ht) _ (List.getElem_mem hk))
      clear ht hnl
      obtain ⟨o, ho⟩ : ∃ o, o = cap512 (runP b xs n) := ⟨_, rfl⟩
      rw [← ho]
      have HO := Lib.hid ho
      clear ho
      go_enter Tryd.func19, Tryd.ntmps19
      go_wp2_with (go_at_call 42; refine (areWithin_any _ xs 1 512 _ hv).mono ?_; rw [HT.out]; rintro e w' ⟨rfl, rfl⟩)
      go_loopw [0, 8, 20] (fun f _ i wr => ∃ k : Nat, k ≤ n ∧ f = .bool (btL b k) ∧ i = .int .i64 k ∧ Lib.IsBuilder 67 5 w.heap.size w.heap.size (Lib.byteCells (runP b xs k)) wr ∧ Below w.heap.size w wr) (fun _ _ i _ => n - (intOf i).toNat)
      case atStart => exact ⟨0, Nat.zero_le _, rfl, rfl, Lib.fresh_isBuilder _ _ w, by go_grown⟩
      case round =>
        obtain ⟨k, hk, rfl, rfl, hB, hb⟩ := hrel
        have hbs := hb.size
        by_cases hlt : k < n
        · obtain ⟨bb, off, rfl, hc0, hbl⟩ := HC.out k hlt
          rw [List.getD_eq_getElem?_getD] at hc0
          have hc := (hb.cell (p := ⟨bb, off + k, none⟩) hbl).trans hc0
          obtain ⟨q1, q2⟩ := HAL.out k hlt
          have HR : Hid (runP b xs (k + 1) = runP b xs k ++ List.replicate (xs[k]?.getD 0).toNat (if btL b k then 49 else 48)) := rfl
          have hlen : (runP b xs k).length ≤ 262144 := by
            have := HBD.out k (by rw [HN.out]; exact hk); omega
          have HBT : Hid (btL b (k + 1) = !(btL b k)) := rfl
          generalize xs[k]?.getD 0 = x at *
          obtain ⟨m, rfl⟩ : ∃ m : Nat, x = (m : Int) := ⟨x.toNat, by omega⟩
          rw [show ((m : Int)).toNat = m from rfl] at HR
          clear hc0
          generalize runP b xs k = l at *
          generalize btL b k = t at *
          cases t
          all_goals
            simp only [if_true, if_false, Bool.false_eq_true] at HR
            have hrl := List.length_replicate (n := m) (a := (49 : UInt8))
            have hrl2 := List.length_replicate (n := m) (a := (48 : UInt8))
            go_wp2_with (first | (go_at_call 31; refine (repeat_any _ m _ (by omega)).mono ?_; rintro e w1 ⟨rfl, hb1⟩) | (go_at_call 43; refine (writeString_any w.heap.size w.heap.size (Lib.byteCells l) _ _ (isb_below hB hb1) (by show _ + (Array.size _) ≤ _; simp [Lib.byteCells]; omega) (by have := hb1.size; omega)).mono ?_; rw [byteCells_add]; rintro e w2 ⟨rfl, hB2, hb2⟩))
            go_roundw
            case rel => exact ⟨k + 1, by omega, by rw [HBT.out]; rfl, by go_num, by rw [HR.out]; exact .inr hB2, hb.trans ((hb1.mono hbs).trans hb2)⟩
            case measure => simp [intOf]; omega
        · obtain rfl : n = k := by omega
          have hL5 : (runP b xs n).length ≤ 1048576 := by
            have := HBD.out n (by rw [HN.out]; exact Nat.le_refl _); omega
          have HAB : Hid (∀ w, Calls Tryd.prog 36 #[.string ⟨(runP b xs n).toArray⟩] w fun e w' => e = .returned (.tuple #[.string o.1, .bool o.2]) ∧ w = w') := by
            show ∀ w, _
            rw [HO.out]
            exact fun w => asBits_any _ w hL5
          generalize runP b xs n = l at *
          go_wp2_with (first | (go_at_call 44; refine (Tryd.Builder_String_any w.heap.size w.heap.size l _ hB hbs).mono ?_; rintro e w1 ⟨rfl, hb1⟩) | (go_at_call 36; refine (HAB.out _).mono ?_; rintro e w' ⟨rfl, rfl⟩))
          go_ret2
          exact ⟨rfl, hb.trans hb1⟩
  · have h6 : (512 : Int) < (n : Int) := by omega
    rw [show out_BitsOfRuns b xs = (⟨#[]⟩, false) by simp [out_BitsOfRuns, runsOk, hnl, h5]]
    clear hnl
    go_enter Tryd.func19, Tryd.ntmps19
    go_wp2
    go_ret2
    exact ⟨rfl, Below.refl _ _⟩

end Go.Proofs.YtjobgobeiiakgaaDoor
