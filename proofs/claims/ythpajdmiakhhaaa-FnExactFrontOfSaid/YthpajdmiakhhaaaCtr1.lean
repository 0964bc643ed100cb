/- The contracts of the first functions, as the laws' walks take them. -/
import Derived.Test.YthpajdmiakhhaaaCod
namespace Go.Proofs.Ythpajdmiakhhaaa
open Go.RowKit

def out_SameCode (xs ys : List Int) : Bool := decide (xs = ys)
theorem spec_SameCode (w : World) (v : Value) (xs : List Int) (hv : SlR w v (xs.map (Value.int .i64))) (_ : ∀ x ∈ xs, I64 x) (_ : xs.length ≤ 1048576) (u : Value) (ys : List Int) (hu : SlR w u (ys.map (Value.int .i64))) (_ : ∀ x ∈ ys, I64 x) (_ : ys.length ≤ 1048576) :
    Calls Try.prog 11 #[.agg #[v], .agg #[u]] w fun e w' => e = .returned (.bool (out_SameCode xs ys)) ∧ Below w.heap.size w w' := specSameCode_any v u xs ys w hv hu
theorem impl_SameCode (w : World) (v : Value) (xs : List Int) (hv : SlR w v (xs.map (Value.int .i64))) (_ : ∀ x ∈ xs, I64 x) (_ : xs.length ≤ 1048576) (u : Value) (ys : List Int) (hu : SlR w u (ys.map (Value.int .i64))) (_ : ∀ x ∈ ys, I64 x) (_ : ys.length ≤ 1048576) :
    Calls Try.prog 13 #[.agg #[v], .agg #[u]] w fun e w' => e = .returned (.bool (out_SameCode xs ys)) ∧ Below w.heap.size w w' := implSameCode_any v u xs ys w hv hu

def out_ValidCode (xs : List Int) : Bool := validC xs
theorem spec_ValidCode (w : World) (v : Value) (xs : List Int) (hv : SlR w v (xs.map (Value.int .i64))) (_ : ∀ x ∈ xs, I64 x) (_ : xs.length ≤ 1048576) :
    Calls Try.prog 15 #[.agg #[v]] w fun e w' => e = .returned (.bool (out_ValidCode xs)) ∧ Below w.heap.size w w' := specValidCode_any v xs w hv
theorem impl_ValidCode (w : World) (v : Value) (xs : List Int) (hv : SlR w v (xs.map (Value.int .i64))) (_ : ∀ x ∈ xs, I64 x) (_ : xs.length ≤ 1048576) :
    Calls Try.prog 16 #[.agg #[v]] w fun e w' => e = .returned (.bool (out_ValidCode xs)) ∧ Below w.heap.size w w' := implValidCode_any v xs w hv

end Go.Proofs.Ythpajdmiakhhaaa
