/- Comparisons, and insertion sorts of the library over a comparison of one's own. -/
import Derived.Test.YtmocfnpbofeiiaaMMevP
import Derived.Test.YtmocfnpbofeiiaaMCod
import Derived.Deep.RegionHeld3
namespace Go.Proofs.Ytmocfnpbofeiiaa
set_option linter.unusedSimpArgs false
set_option linter.unusedVariables false
open Go.RowKit
/-- Numbers as values. -/
abbrev nats (l : List Nat) : List Value := l.map (fun x : Nat => Value.int .i64 (x : Int))
theorem getNat {l : List Nat} {N : Nat} (h : ∀ x ∈ l, x < N) (k : Nat) (hk : k < l.length) : l[k]?.getD 0 < N := by
  rw [List.getElem?_eq_getElem hk]; exact h _ (List.getElem_mem hk)
theorem nats_get (l : List Nat) (k : Nat) (hk : k < l.length) : (nats l)[k]? = some (.int .i64 ((l[k]?.getD 0 : Nat) : Int)) := by
  simp [List.getElem?_eq_getElem hk]
theorem swp_mem {l : List Nat} {j : Nat} {N : Nat} (h : ∀ x ∈ l, x < N) (hj : j + 1 < l.length) : ∀ x ∈ swp l j, x < N := fun x hx => h x ((swp_perm l j hj).mem_iff.1 hx)
theorem bub_stop (lt : Nat → Nat → Bool) (a : Nat) (l : List Nat) (j : Nat) (h : j ≤ a) : bub lt a l j = l := by
  cases j with
  | zero => rfl
  | succ j => unfold bub; rw [if_neg (fun x => by omega)]
theorem own_drewN {w : World} {b : Nat} {e : TypeId} {s : Nat} {v : Value} {n : Nat} {xs : List Value} (h : w.ownsRow b e s v n xs) (q : Nat) : (w.drewN q).ownsRow b e s v n xs := ownsRow_below h ((Qu.refl _).drewN q).keep
theorem own_drew {w : World} {b : Nat} {e : TypeId} {s : Nat} {v : Value} {n : Nat} {xs : List Value} (h : w.ownsRow b e s v n xs) : w.drew.ownsRow b e s v n xs := ownsRow_below h ((Qu.refl _).drew).keep
theorem grown_drewN {a w : World} {row : Option Nat} (h : a.grownBy w row) (n : Nat) : a.grownBy (w.drewN n) row := ⟨h.os, h.tape, h.output, h.size, h.block⟩
theorem grown_drew {a w : World} {row : Option Nat} (h : a.grownBy w row) : a.grownBy w.drew row := ⟨h.os, h.tape, h.output, h.size, h.block⟩
/-- What a comparison does when it is called: it reads what lies below B as it was in w0. -/
def ClR (P : Program) (F : Nat) (cp : Value) (B N : Nat) (w0 : World) (cf : Nat → Nat → Int) : Prop :=
  ∀ (W : World) (x y : Nat), Below B w0 W → x < N → y < N → Calls P F #[.int .i64 (x : Int), .int .i64 (y : Int), cp] W fun e w' => e = .returned (.int .i64 (cf x y)) ∧ Qu W w'

end Go.Proofs.Ytmocfnpbofeiiaa

/- The library's insertion sort over a comparison that reads everything but the row itself. -/
namespace Go.Proofs.Ytmocfnpbofeiiaa
set_option linter.unusedSimpArgs false
set_option linter.unusedVariables false
open Go.RowKit
/-- What a comparison does when it is called: it reads what lies in w0, but not the row. -/
def ClG (P : Program) (F : Nat) (cp : Value) (r : Option Nat) (N : Nat) (w0 : World) (cf : Nat → Nat → Int) : Prop :=
  ∀ (W : World) (x y : Nat), w0.grownBy W r → x < N → y < N → Calls P F #[.int .i64 (x : Int), .int .i64 (y : Int), cp] W fun e w' => e = .returned (.int .i64 (cf x y)) ∧ Qu W w'

end Go.Proofs.Ytmocfnpbofeiiaa
