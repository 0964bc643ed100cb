/- strings.Builder: WriteString and String, laid at this dump by hand. -/
import Derived.Test.YtmhffnbneaggiaaTxt
import Derived.Shelf.Strings.Builder1
namespace Go.Proofs.Ytmhffnbneaggiaa
set_option linter.unusedSimpArgs false
set_option linter.unusedVariables false
open Go.RowKit Go.Shelf

def ren166 : Go.Shelf.Ren := ⟨fun | 166 => 66 | 240 => 86 | 276 => 99 | n => n, fun | 0 => 0 | 3 => 3 | 4 => 4 | 9 => 9 | 20 => 20 | 37 => 75 | 70 => 86 | 72 => 88 | 75 => 90 | 164 => 120 | 5 => 5 | 80 => 94 | n => n, fun n => n⟩
theorem lays166 : Go.Proofs.Lays.n166 Try.prog ren166 := {
  mixed := by kernel_rfl
  f166 := Try.func66.trans (congrArg some (by kernel_rfl))
  f240 := Try.func86.trans (congrArg some (by kernel_rfl))
  f276 := Try.func99.trans (congrArg some (by kernel_rfl))
  t0 := Try.underlying0
  a0 := Try.isAgg0
  z0 := Try.sizeOf0
  v0 := Try.zeroValue0
  t3 := Try.underlying3
  a3 := Try.isAgg3
  z3 := Try.sizeOf3
  v3 := Try.zeroValue3
  t4 := Try.underlying4
  a4 := Try.isAgg4
  z4 := Try.sizeOf4
  v4 := Try.zeroValue4
  t9 := Try.underlying9
  a9 := Try.isAgg9
  z9 := Try.sizeOf9
  v9 := Try.zeroValue9
  t20 := Try.underlying20
  a20 := Try.isAgg20
  z20 := Try.sizeOf20
  v20 := Try.zeroValue20
  t37 := Try.underlying75
  a37 := Try.isAgg75
  z37 := Try.sizeOf75
  v37 := Try.zeroValue75
  t70 := Try.underlying86
  a70 := Try.isAgg86
  z70 := Try.sizeOf86
  v70 := Try.zeroValue86
  t72 := Try.underlying88
  a72 := Try.isAgg88
  z72 := Try.sizeOf88
  v72 := Try.zeroValue88
  t75 := Try.underlying90
  a75 := Try.isAgg90
  z75 := Try.sizeOf90
  v75 := Try.zeroValue90
  t164 := Try.underlying120
  a164 := Try.isAgg120
  z164 := Try.sizeOf120
  v164 := Try.zeroValue120 }
theorem extra166 : Builder.Extra Try.prog ren166 := {
  sizeBuilder := by kernel_rfl
  liesBuilder := by kernel_rfl
  t5 := Try.underlying5
  a5 := Try.isAgg5
  z5 := Try.sizeOf5
  v5 := Try.zeroValue5
  infoByte := by kernel_rfl
  cellsByte := by kernel_rfl
  sizeByte := by kernel_rfl
  neB5 := by decide }
theorem writeString_any (B b : Nat) (bs : List Value) (s : ByteArray) (w : World) (h : Lib.IsBuilder 88 5 B b bs w) (hlen : bs.length + s.size ≤ 140737488355328) (hBw : B ≤ w.heap.size) :
    Calls Try.prog 66 #[.pointer (some ⟨b, 0, none⟩), .string s] w fun e w' => e = .returned (.tuple #[.int .i64 s.size, .nilIface]) ∧ (Lib.BuilderAt 88 5 B b (.pointer (some ⟨b, 0, none⟩)) (bs ++ Lib.strCells s) w' ∧ Below B w w') :=
  Any.Builder_WriteString lays166 extra166 B b bs s w h hlen hBw

def ren169 : Go.Shelf.Ren := ⟨fun | 169 => 68 | n => n, fun | 0 => 0 | 3 => 3 | 9 => 9 | 37 => 75 | 70 => 86 | 72 => 88 | 127 => 111 | 5 => 5 | n => n, fun n => n⟩
theorem lays169 : Go.Proofs.Lays.n169 Try.prog ren169 := {
  mixed := by kernel_rfl
  f169 := Try.func68.trans (congrArg some (by kernel_rfl))
  t0 := Try.underlying0
  a0 := Try.isAgg0
  z0 := Try.sizeOf0
  v0 := Try.zeroValue0
  t3 := Try.underlying3
  a3 := Try.isAgg3
  z3 := Try.sizeOf3
  v3 := Try.zeroValue3
  t9 := Try.underlying9
  a9 := Try.isAgg9
  z9 := Try.sizeOf9
  v9 := Try.zeroValue9
  t37 := Try.underlying75
  a37 := Try.isAgg75
  z37 := Try.sizeOf75
  v37 := Try.zeroValue75
  t70 := Try.underlying86
  a70 := Try.isAgg86
  z70 := Try.sizeOf86
  v70 := Try.zeroValue86
  t72 := Try.underlying88
  a72 := Try.isAgg88
  z72 := Try.sizeOf88
  v72 := Try.zeroValue88
  t127 := Try.underlying111
  a127 := Try.isAgg111
  z127 := Try.sizeOf111
  v127 := Try.zeroValue111 }
theorem extra169 : Builder.Extra Try.prog ren169 := {
  sizeBuilder := by kernel_rfl
  liesBuilder := by kernel_rfl
  t5 := Try.underlying5
  a5 := Try.isAgg5
  z5 := Try.sizeOf5
  v5 := Try.zeroValue5
  infoByte := by kernel_rfl
  cellsByte := by kernel_rfl
  sizeByte := by kernel_rfl
  neB5 := by decide }
theorem bldString_any (B b : Nat) (l : List UInt8) (w : World) (h : Lib.IsBuilder 88 5 B b (Lib.byteCells l) w) (hBw : B ≤ w.heap.size) :
    Calls Try.prog 68 #[.pointer (some ⟨b, 0, none⟩)] w fun e w' => e = .returned (.string ⟨l.toArray⟩) ∧ Below B w w' := Any.Builder_String_any lays169 extra169 B b l w h hBw

theorem bld_below {T e : TypeId} {B b : Nat} {p : Value} {bs : List Value} {w w' : World} (h : Lib.BuilderAt T e B b p bs w) (hb : Below w.heap.size w w') : Lib.BuilderAt T e B b p bs w' := by
  have hl := h.lt
  obtain ⟨hB, v, hbk, hown, hne⟩ := h
  exact ⟨hB, v, by rw [hb.block b hl]; exact hbk, ownsRow_below hown hb, hne⟩
theorem isb_below {T e : TypeId} {B b : Nat} {bs : List Value} {w w' : World} (h : Lib.IsBuilder T e B b bs w) (hb : Below w.heap.size w w') : Lib.IsBuilder T e B b bs w' :=
  h.elim (fun x => .inl (bld_below x hb)) (fun x => .inr (bld_below x hb))
theorem byteCells_add (a b : List UInt8) : Lib.byteCells a ++ Lib.strCells ⟨b.toArray⟩ = Lib.byteCells (a ++ b) := by
  simp [Lib.byteCells, Lib.strCells]

def btL (b : Bool) : Nat → Bool
  | 0 => b
  | k + 1 => !(btL b k)
theorem btL_eq (b : Bool) : ∀ k : Nat, (b == (k % 2 == 0)) = btL b k
  | 0 => by cases b <;> rfl
  | k + 1 => by
    have h := btL_eq b k
    show _ = !(btL b k)
    rw [← h]
    rcases Nat.mod_two_eq_zero_or_one k with h2 | h2 <;> rw [h2, show (k + 1) % 2 = _ from by rw [Nat.add_mod, h2]] <;> cases b <;> rfl
def runP (b : Bool) (xs : List Int) : Nat → List UInt8
  | 0 => []
  | k + 1 => runP b xs k ++ List.replicate (xs[k]?.getD 0).toNat (if btL b k then 49 else 48)
theorem runP_mono (b : Bool) (xs : List Int) (k : Nat) : ∀ j, (runP b xs k).length ≤ (runP b xs (k + j)).length
  | 0 => Nat.le_refl _
  | j + 1 => by
    have := runP_mono b xs k j
    rw [show k + (j + 1) = (k + j) + 1 from rfl, runP, List.length_append]
    omega
theorem runP_bd (b : Bool) (xs : List Int) (ha : xs.all (fun n => inB n 1 512) = true) : ∀ k, k ≤ xs.length → (runP b xs k).length ≤ 512 * k
  | 0, _ => Nat.le_refl _
  | k + 1, h => by
    have h1 := runP_bd b xs ha k (by omega)
    have h2 : inB (xs[k]?.getD 0) 1 512 = true := by
      rw [List.getElem?_eq_getElem (by omega)]
      exact (List.all_eq_true.1 ha) _ (List.getElem_mem (by omega))
    have h3 := inB_true h2
    rw [runP, List.length_append, List.length_replicate]
    omega
def runsOk (xs : List Int) : Bool := decide (xs.length ≤ 512) && xs.all (fun n => inB n 1 512)
def cap512 (l : List UInt8) : ByteArray × Bool := (if l.length ≤ 512 then ⟨l.toArray⟩ else ⟨#[]⟩, decide (l.length ≤ 512))
theorem cap512_yes {l : List UInt8} (h : l.length ≤ 512) : cap512 l = (⟨l.toArray⟩, true) := by simp [cap512, h]
theorem cap512_no {l : List UInt8} (h : ¬ l.length ≤ 512) : cap512 l = (⟨#[]⟩, false) := by simp [cap512, h]
def out_BitsOfRuns (b : Bool) (xs : List Int) : ByteArray × Bool := if runsOk xs then cap512 (runP b xs xs.length) else (⟨#[]⟩, false)

end Go.Proofs.Ytmhffnbneaggiaa
