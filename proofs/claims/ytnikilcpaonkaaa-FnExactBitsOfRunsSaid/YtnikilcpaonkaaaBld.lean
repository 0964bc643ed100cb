/- strings.Builder: WriteString, out of the laying of strings.Repeat (the same closure). -/
import Derived.Test.YtnikilcpaonkaaaRic
namespace Go.Proofs.Ytnikilcpaonkaaa
open Go.RowKit

theorem lays166 : Go.Proofs.Lays.n166 Try.prog Try.lays105_ren := {
  mixed := Try.lays105.mixed
  f166 := Try.lays105.f166
  f240 := Try.lays105.f240
  f276 := Try.lays105.f276
  t0 := Try.lays105.t0
  a0 := Try.lays105.a0
  z0 := Try.lays105.z0
  v0 := Try.lays105.v0
  t3 := Try.lays105.t3
  a3 := Try.lays105.a3
  z3 := Try.lays105.z3
  v3 := Try.lays105.v3
  t4 := Try.lays105.t4
  a4 := Try.lays105.a4
  z4 := Try.lays105.z4
  v4 := Try.lays105.v4
  t9 := Try.lays105.t9
  a9 := Try.lays105.a9
  z9 := Try.lays105.z9
  v9 := Try.lays105.v9
  t20 := Try.lays105.t20
  a20 := Try.lays105.a20
  z20 := Try.lays105.z20
  v20 := Try.lays105.v20
  t37 := Try.lays105.t37
  a37 := Try.lays105.a37
  z37 := Try.lays105.z37
  v37 := Try.lays105.v37
  t70 := Try.lays105.t70
  a70 := Try.lays105.a70
  z70 := Try.lays105.z70
  v70 := Try.lays105.v70
  t72 := Try.lays105.t72
  a72 := Try.lays105.a72
  z72 := Try.lays105.z72
  v72 := Try.lays105.v72
  t75 := Try.lays105.t75
  a75 := Try.lays105.a75
  z75 := Try.lays105.z75
  v75 := Try.lays105.v75
  t164 := Try.lays105.t164
  a164 := Try.lays105.a164
  z164 := Try.lays105.z164
  v164 := Try.lays105.v164 }
theorem writeString_any (B b : Nat) (bs : List Value) (s : ByteArray) (w : World) (h : Lib.IsBuilder 60 5 B b bs w) (hlen : bs.length + s.size ≤ 140737488355328) (hBw : B ≤ w.heap.size) :
    Calls Try.prog 49 #[.pointer (some ⟨b, 0, none⟩), .string s] w fun e w' => e = .returned (.tuple #[.int .i64 s.size, .nilIface]) ∧ (Lib.BuilderAt 60 5 B b (.pointer (some ⟨b, 0, none⟩)) (bs ++ Lib.strCells s) w' ∧ Below B w w') :=
  Any.Builder_WriteString lays166 Try.Builder_Extra_105 B b bs s w h hlen hBw

theorem bld_below {T e : TypeId} {B b : Nat} {p : Value} {bs : List Value} {w w' : World} (h : Lib.BuilderAt T e B b p bs w) (hb : Below w.heap.size w w') : Lib.BuilderAt T e B b p bs w' := by
  have hl := h.lt
  obtain ⟨hB, v, hbk, hown, hne⟩ := h
  exact ⟨hB, v, by rw [hb.block b hl]; exact hbk, ownsRow_below hown hb, hne⟩
theorem isb_below {T e : TypeId} {B b : Nat} {bs : List Value} {w w' : World} (h : Lib.IsBuilder T e B b bs w) (hb : Below w.heap.size w w') : Lib.IsBuilder T e B b bs w' :=
  h.elim (fun x => .inl (bld_below x hb)) (fun x => .inr (bld_below x hb))
theorem byteCells_add (a b : List UInt8) : Lib.byteCells a ++ Lib.strCells ⟨b.toArray⟩ = Lib.byteCells (a ++ b) := by
  simp [Lib.byteCells, Lib.strCells]

def btL (b : Bool) : Nat → Bool
  | 0 => b
  | k + 1 => !(btL b k)
theorem btL_eq (b : Bool) : ∀ k : Nat, (b == (k % 2 == 0)) = btL b k
  | 0 => by cases b <;> rfl
  | k + 1 => by
    have h := btL_eq b k
    show _ = !(btL b k)
    rw [← h]
    rcases Nat.mod_two_eq_zero_or_one k with h2 | h2 <;> rw [h2, show (k + 1) % 2 = _ from by rw [Nat.add_mod, h2]] <;> cases b <;> rfl
def runP (b : Bool) (xs : List Int) : Nat → List UInt8
  | 0 => []
  | k + 1 => runP b xs k ++ List.replicate (xs[k]?.getD 0).toNat (if btL b k then 49 else 48)
theorem runP_mono (b : Bool) (xs : List Int) (k : Nat) : ∀ j, (runP b xs k).length ≤ (runP b xs (k + j)).length
  | 0 => Nat.le_refl _
  | j + 1 => by
    have := runP_mono b xs k j
    rw [show k + (j + 1) = (k + j) + 1 from rfl, runP, List.length_append]
    omega
theorem runP_bd (b : Bool) (xs : List Int) (ha : xs.all (fun n => inB n 1 512) = true) : ∀ k, k ≤ xs.length → (runP b xs k).length ≤ 512 * k
  | 0, _ => Nat.le_refl _
  | k + 1, h => by
    have h1 := runP_bd b xs ha k (by omega)
    have h2 : inB (xs[k]?.getD 0) 1 512 = true := by
      rw [List.getElem?_eq_getElem (by omega)]
      exact (List.all_eq_true.1 ha) _ (List.getElem_mem (by omega))
    have h3 := inB_true h2
    rw [runP, List.length_append, List.length_replicate]
    omega
def runsOk (xs : List Int) : Bool := decide (xs.length ≤ 512) && xs.all (fun n => inB n 1 512)
def cap512 (l : List UInt8) : ByteArray × Bool := (if l.length ≤ 512 then ⟨l.toArray⟩ else ⟨#[]⟩, decide (l.length ≤ 512))
theorem cap512_yes {l : List UInt8} (h : l.length ≤ 512) : cap512 l = (⟨l.toArray⟩, true) := by simp [cap512, h]
theorem cap512_no {l : List UInt8} (h : ¬ l.length ≤ 512) : cap512 l = (⟨#[]⟩, false) := by simp [cap512, h]
def out_BitsOfRuns (b : Bool) (xs : List Int) : ByteArray × Bool := if runsOk xs then cap512 (runP b xs xs.length) else (⟨#[]⟩, false)

set_option maxHeartbeats 1000000 in
theorem impl_BitsOfRuns (w : World) (b : Bool) (v : Value) (xs : List Int) (hv : SlR w v (xs.map (Value.int .i64))) (_ : ∀ x ∈ xs, I64 x) (_ : xs.length ≤ 1048576) :
    Calls Try.prog 23 #[.bool b, v] w fun e w' => e = .returned (.tuple #[.string (out_BitsOfRuns b xs).1, .bool (out_BitsOfRuns b xs).2]) ∧ Below w.heap.size w w' := by
  obtain ⟨a, n, c, rfl, hnl, hnc, hcm, hcell⟩ := SlR.opened 0 hv
  unfold maxLen at hcm
  have hn9 : n ≤ 9223372036854775807 := by omega
  have HN := Lib.hid hnl
  have HC := Lib.hid hcell
  clear hcell hcm hnc
  by_cases h5 : n ≤ 512
  · have h6 : ¬ (512 : Int) < (n : Int) := by omega
    generalize ht : xs.all (fun n => inB n 1 512) = t
    have HT := Lib.hid ht
    cases t
    · rw [show out_BitsOfRuns b xs = (⟨#[]⟩, false) by simp [out_BitsOfRuns, runsOk, ht]]
      clear ht
      go_enter Try.func23, Try.ntmps23
      go_wp2_with (go_at_call 48; refine (areWithin_any _ xs 1 512 _ hv).mono ?_; rw [HT.out]; rintro e w' ⟨rfl, rfl⟩)
      go_ret2
      exact ⟨rfl, Below.refl _ _⟩
    · rw [show out_BitsOfRuns b xs = cap512 (runP b xs n) by simp [out_BitsOfRuns, runsOk, ht, hnl, h5]]
      have HBD := Lib.hid (runP_bd b xs ht)
      have HAL : Hid (∀ k, k < n → 1 ≤ xs[k]?.getD 0 ∧ xs[k]?.getD 0 ≤ 512) := by
        intro k hk
        rw [← hnl] at hk
        rw [List.getElem?_eq_getElem hk]
        exact inB_true ((List.all_eq_true.1 ht) _ (List.getElem_mem hk))
      clear ht hnl
      obtain ⟨o, ho⟩ : ∃ o, o = cap512 (runP b xs n) := ⟨_, rfl⟩
      rw [← ho]
      have HO := Lib.hid ho
      clear ho
      go_enter Try.func23, Try.ntmps23
      go_wp2_with (go_at_call 48; refine (areWithin_any _ xs 1 512 _ hv).mono ?_; rw [HT.out]; rintro e w' ⟨rfl, rfl⟩)
      go_loopw [0, 8, 20] (fun f _ i wr => ∃ k : Nat, k ≤ n ∧ f = .bool (btL b k) ∧ i = .int .i64 k ∧ Lib.IsBuilder 60 5 w.heap.size w.heap.size (Lib.byteCells (runP b xs k)) wr ∧ Below w.heap.size w wr) (fun _ _ i _ => n - (intOf i).toNat)
      case atStart => exact ⟨0, Nat.zero_le _, rfl, rfl, Lib.fresh_isBuilder _ _ w, by go_grown⟩
      case round =>
        obtain ⟨k, hk, rfl, rfl, hB, hb⟩ := hrel
        have hbs := hb.size
        by_cases hlt : k < n
        · obtain ⟨bb, off, rfl, hc0, hbl⟩ := HC.out k hlt
          rw [List.getD_eq_getElem?_getD] at hc0
          have hc := (hb.cell (p := ⟨bb, off + k, none⟩) hbl).trans hc0
          obtain ⟨q1, q2⟩ := HAL.out k hlt
          have HR : Hid (runP b xs (k + 1) = runP b xs k ++ List.replicate (xs[k]?.getD 0).toNat (if btL b k then 49 else 48)) := rfl
          have hlen : (runP b xs k).length ≤ 262144 := by
            have := HBD.out k (by rw [HN.out]; exact hk); omega
          have HBT : Hid (btL b (k + 1) = !(btL b k)) := rfl
          generalize xs[k]?.getD 0 = x at *
          obtain ⟨m, rfl⟩ : ∃ m : Nat, x = (m : Int) := ⟨x.toNat, by omega⟩
          rw [show ((m : Int)).toNat = m from rfl] at HR
          clear hc0
          generalize runP b xs k = l at *
          generalize btL b k = t at *
          cases t
          all_goals
            simp only [if_true, if_false, Bool.false_eq_true] at HR
            have hrl := List.length_replicate (n := m) (a := (49 : UInt8))
            have hrl2 := List.length_replicate (n := m) (a := (48 : UInt8))
            go_wp2_with (first | (go_at_call 50; refine (repeat_any _ m _ (by omega)).mono ?_; rintro e w1 ⟨rfl, hb1⟩) | (go_at_call 49; refine (writeString_any w.heap.size w.heap.size (Lib.byteCells l) _ _ (isb_below hB hb1) (by show _ + (Array.size _) ≤ _; simp [Lib.byteCells]; omega) (by have := hb1.size; omega)).mono ?_; rw [byteCells_add]; rintro e w2 ⟨rfl, hB2, hb2⟩))
            go_roundw
            case rel => exact ⟨k + 1, by omega, by rw [HBT.out]; rfl, by go_num, by rw [HR.out]; exact .inr hB2, hb.trans ((hb1.mono hbs).trans hb2)⟩
            case measure => simp [intOf]; omega
        · obtain rfl : n = k := by omega
          have hL5 : (runP b xs n).length ≤ 1048576 := by
            have := HBD.out n (by rw [HN.out]; exact Nat.le_refl _); omega
          have HAB : Hid (∀ w, Calls Try.prog 51 #[.string ⟨(runP b xs n).toArray⟩] w fun e w' => e = .returned (.tuple #[.string o.1, .bool o.2]) ∧ w = w') := by
            show ∀ w, _
            rw [HO.out]
            exact fun w => asBits_any _ w hL5
          generalize runP b xs n = l at *
          go_wp2_with (first | (go_at_call 52; refine (Try.Builder_String_any w.heap.size w.heap.size l _ hB hbs).mono ?_; rintro e w1 ⟨rfl, hb1⟩) | (go_at_call 51; refine (HAB.out _).mono ?_; rintro e w' ⟨rfl, rfl⟩))
          go_ret2
          exact ⟨rfl, hb.trans hb1⟩
  · have h6 : (512 : Int) < (n : Int) := by omega
    rw [show out_BitsOfRuns b xs = (⟨#[]⟩, false) by simp [out_BitsOfRuns, runsOk, hnl, h5]]
    clear hnl
    go_enter Try.func23, Try.ntmps23
    go_wp2
    go_ret2
    exact ⟨rfl, Below.refl _ _⟩

set_option maxHeartbeats 1000000 in
theorem spec_BitsOfRuns (w : World) (b : Bool) (v : Value) (xs : List Int) (hv : SlR w v (xs.map (Value.int .i64))) (_ : ∀ x ∈ xs, I64 x) (_ : xs.length ≤ 1048576) :
    Calls Try.prog 22 #[.bool b, v] w fun e w' => e = .returned (.tuple #[.string (out_BitsOfRuns b xs).1, .bool (out_BitsOfRuns b xs).2]) ∧ Below w.heap.size w w' := by
  obtain ⟨a, n, c, rfl, hnl, hnc, hcm, hcell⟩ := SlR.opened 0 hv
  unfold maxLen at hcm
  have hn9 : n ≤ 9223372036854775807 := by omega
  have HN := Lib.hid hnl
  have HC := Lib.hid hcell
  clear hcell hcm hnc
  by_cases h5 : n ≤ 512
  · have HBAD : Hid (∀ k, k < n → inB (xs[k]?.getD 0) 1 512 = false → out_BitsOfRuns b xs = (⟨#[]⟩, false)) := by
      intro k hk hf
      have : xs.all (fun n => inB n 1 512) = false := all_false_of xs _ k 0 (by omega) hf
      simp [out_BitsOfRuns, runsOk, this]
    have HLONG : Hid (∀ k, k ≤ n → ¬ (runP b xs k).length ≤ 512 → out_BitsOfRuns b xs = (⟨#[]⟩, false)) := by
      intro k hk hf
      have h := runP_mono b xs k (n - k)
      rw [show k + (n - k) = n by omega] at h
      unfold out_BitsOfRuns
      rw [hnl, cap512_no (by omega)]
      simp
    have HEND : Hid ((xs.take n).all (fun n => inB n 1 512) = true → (runP b xs n).length ≤ 512 → out_BitsOfRuns b xs = (⟨(runP b xs n).toArray⟩, true)) := by
      intro h1 h2
      rw [List.take_of_length_le (by omega)] at h1
      rw [out_BitsOfRuns, hnl, cap512_yes h2, runsOk, h1, hnl]
      simp [h5]
    generalize out_BitsOfRuns b xs = o at *
    clear hnl
    go_enter Try.func22, Try.ntmps22
    go_wp2
    go_loop [6, 7] (fun s i => ∃ k : Nat, k ≤ n ∧ i = .int .i64 k ∧ s = .string ⟨(runP b xs k).toArray⟩ ∧ (xs.take k).all (fun n => inB n 1 512) = true ∧ (runP b xs k).length ≤ 512) (fun _ i => n - (intOf i).toNat)
    case atStart => exact ⟨0, Nat.zero_le _, rfl, rfl, rfl, Nat.zero_le _⟩
    case round =>
      obtain ⟨k, hk, rfl, rfl, hall, hlen⟩ := hrel
      have HA := Lib.hid hall
      clear hall
      by_cases hlt : k < n
      · obtain ⟨bb, off, rfl, hc, hbl⟩ := HC.out k hlt
        rw [List.getD_eq_getElem?_getD] at hc
        generalize ht : inB (xs[k]?.getD 0) 1 512 = t
        have HT := Lib.hid ht
        cases t
        · have HO := Lib.hid (HBAD.out k hlt ht)
          clear ht
          go_wp2_with (go_at_call 46; refine (l00In_any _ _ _ _).mono ?_; rw [HT.out]; rintro e w' ⟨rfl, rfl⟩)
          go_ret2
          exact ⟨by rw [HO.out]; rfl, Below.refl _ _⟩
        · have HA2 : Hid ((xs.take (k + 1)).all (fun n => inB n 1 512) = true) := by
            show _ = _
            rw [all_take_succ xs _ k 0 (by rw [HN.out]; exact hlt), HA.out, ht]; rfl
          have q := inB_true ht
          have HR : Hid (runP b xs (k + 1) = runP b xs k ++ List.replicate (xs[k]?.getD 0).toNat (if btL b k then 49 else 48)) := rfl
          have HBT := Lib.hid (btL_eq b k)
          have HLG := Lib.hid (HLONG.out (k + 1) (by omega))
          clear ht
          generalize xs[k]?.getD 0 = x at *
          obtain ⟨m, rfl⟩ : ∃ m : Nat, x = (m : Int) := ⟨x.toNat, by omega⟩
          rw [show ((m : Int)).toNat = m from rfl] at HR
          obtain ⟨q1, q2⟩ := q
          generalize hr1 : runP b xs (k + 1) = l1 at *
          generalize runP b xs k = l at *
          generalize btL b k = t at *
          have h2 := Nat.mod_two_eq_zero_or_one k
          have HBT1 := HBT.out
          clear HBT
          have hrl := List.length_replicate (n := m) (a := (49 : UInt8))
          have hrl2 := List.length_replicate (n := m) (a := (48 : UInt8))
          rcases h2 with h2 | h2
          all_goals
            rw [h2] at HBT1
            first
              | have hk2 : (k : Int) % 2 = 0 := by omega
              | have hk2 : (k : Int) % 2 = 1 := by omega
            clear h2
            cases b
          all_goals cases t
          all_goals try (exact absurd HBT1 (by decide))
          all_goals
            clear HBT1
            simp only [if_true, if_false, Bool.false_eq_true] at HR
            first
              | (have HZ : Hid (l1 = l ++ List.replicate m (49 : UInt8)) := HR; have HS := Lib.hid (fun w => l04Same_any 49 m w (by omega)); clear HR hrl2; generalize List.replicate m (49 : UInt8) = z at *)
              | (have HZ : Hid (l1 = l ++ List.replicate m (48 : UInt8)) := HR; have HS := Lib.hid (fun w => l04Same_any 48 m w (by omega)); clear HR hrl; generalize List.replicate m (48 : UInt8) = z at *)
            have hcat : ∀ W, (Op.stringOp .add ⟨l.toArray⟩ ⟨z.toArray⟩).run Try.prog W = .ok (.string ⟨l1.toArray⟩) W := fun W => by rw [HZ.out]; exact run_string_add_lists W l z (by omega) (by omega)
            have hl1 : l1.length ≤ 2048 := by rw [HZ.out, List.length_append]; omega
            by_cases hlg : l1.length ≤ 512
            · have hlg' : ¬ (512 : Int) < (l1.length : Int) := by omega
              go_wp2_with (first | (go_at_call 46; refine (l00In_any _ _ _ _).mono ?_; rw [HT.out]; rintro e w' ⟨rfl, rfl⟩) | (go_at_call 47; refine (HS.out _).mono ?_; rintro e w' ⟨rfl, rfl⟩))
              go_round
              case rel => exact ⟨k + 1, by omega, by go_num, by rw [hr1], HA2.out, by rw [hr1]; exact hlg⟩
              case measure => simp [intOf]; omega
            · have hlg' : (512 : Int) < (l1.length : Int) := by omega
              have HO := Lib.hid (HLG.out hlg)
              go_wp2_with (first | (go_at_call 46; refine (l00In_any _ _ _ _).mono ?_; rw [HT.out]; rintro e w' ⟨rfl, rfl⟩) | (go_at_call 47; refine (HS.out _).mono ?_; rintro e w' ⟨rfl, rfl⟩))
              go_ret2
              exact ⟨by rw [HO.out]; rfl, Below.refl _ _⟩
      · obtain rfl : n = k := by omega
        have HO := Lib.hid (HEND.out HA.out hlen)
        have h512 : (n : Int) ≤ 512 := by omega
        go_wp2
        go_ret2
        exact ⟨by rw [HO.out]; rfl, Below.refl _ _⟩
  · have h6 : ¬ (n : Int) ≤ 512 := by omega
    rw [show out_BitsOfRuns b xs = (⟨#[]⟩, false) by simp [out_BitsOfRuns, runsOk, hnl, h5]]
    clear hnl
    go_enter Try.func22, Try.ntmps22
    go_wp2
    go_loop [6, 7] (fun s i => s = .string ⟨#[]⟩ ∧ i = .int .i64 0) (fun _ _ => 0)
    case atStart => exact ⟨rfl, rfl⟩
    case round =>
      obtain ⟨rfl, rfl⟩ := hrel
      go_wp2
      go_ret2
      exact ⟨ret_tup2 rfl (decide_eq_false (by omega)), Below.refl _ _⟩

end Go.Proofs.Ytnikilcpaonkaaa
