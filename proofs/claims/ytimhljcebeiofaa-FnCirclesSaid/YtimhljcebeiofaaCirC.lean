/- Circles: what the law asks of the 64 phasors. -/
import Derived.Test.YtimhljcebeiofaaCirT
namespace Go.Proofs.Ytimhljcebeiofaa
set_option linter.unusedSimpArgs false
set_option linter.unusedVariables false
open Go.RowKit
open Ieee
/-- The absolute difference of two double words. -/
def gpW (x y : Nat) : Nat := if FloatKind.f64.format.order x y = some .lt then fA .sub .f64 y x else fA .sub .f64 x y
def gpOk (x y : Nat) : Bool := (FloatKind.f64.format.order x y).isSome && (floatBits .sub .f64 y x).isSome && (floatBits .sub .f64 x y).isSome
def leOk (x y : Nat) : Bool := FloatKind.f64.format.order x y == some .lt || FloatKind.f64.format.order x y == some .eq
def cvOk (x : Nat) : Bool := (floatToFloatBits .f32 x .f64).isSome
/-- An angle in 64ths, what it lies beside the one asked, and that as a whole number. -/
def a64 (a : Int) : Nat := fA .mul .f64 (up64 (anWd (ja a))) 4634204016564240384
def tnW (a : Int) : Nat := fA .sub .f64 (a64 a) (floatOfInt .f64 a)
def whI (a : Int) : Int := (if ja a ≤ 32 then (ja a : Int) - a else (ja a : Int) - 64 - a) + 10000
def chA (a : Int) : Bool := cvOk (anWd (ja a)) && (floatBits .mul .f64 (up64 (anWd (ja a))) 4634204016564240384).isSome && (floatBits .sub .f64 (a64 a) (floatOfInt .f64 a)).isSome && (floatBits .add .f64 (tnW a) 4666723447345250304).isSome &&
  (floatToIntVal .f64 (fA .add .f64 (tnW a) 4666723447345250304) .i64 == some (whI a)) && gpOk (tnW a) (floatOfInt .f64 (whI a - 10000)) && leOk (gpW (tnW a) (floatOfInt .f64 (whI a - 10000))) 4562254508917369340 && ((whI a - 10000).tmod 64 == 0) && decide (0 ≤ whI a) && decide (whI a ≤ 20000)
theorem chA_all : ∀ k : Nat, k < 256 → chA ((k : Int) - 128) = true := by decide +kernel
def chP (j : Nat) : Bool := pwOk (pcW j) (psW j) && cvOk (dn32 (pwW (pcW j) (psW j))) && gpOk (up64 (dn32 (pwW (pcW j) (psW j)))) 4607182418800017408 && leOk (gpW (up64 (dn32 (pwW (pcW j) (psW j)))) 4607182418800017408) 4547007122018943789 &&
  cvOk (pcW j) && gpOk (up64 (pcW j)) 0 && (FloatKind.f64.format.order (gpW (up64 (pcW j)) 0) 0).isSome && (FloatKind.f64.format.order (gpW (up64 (pcW j)) 0) 4607182418800017408).isSome &&
  (j % 16 != 0 || FloatKind.f64.format.order (gpW (up64 (pcW j)) 0) 0 == some .eq || FloatKind.f64.format.order (gpW (up64 (pcW j)) 0) 4607182418800017408 == some .eq)
theorem chP_all : ∀ j : Nat, j < 64 → chP j = true := by decide +kernel
def nrOk (a b c d most : Nat) : Bool := cvOk a && cvOk b && cvOk c && cvOk d && gpOk (up64 a) (up64 c) && gpOk (up64 b) (up64 d) && leOk (gpW (up64 a) (up64 c)) most && leOk (gpW (up64 b) (up64 d)) most
def chM (i j : Nat) : Bool := mlOk (pcW i) (psW i) (pcW j) (psW j) && nrOk (mlR (pcW i) (psW i) (pcW j) (psW j)) (mlI (pcW i) (psW i) (pcW j) (psW j)) (pcW ((i + j) % 64)) (psW ((i + j) % 64)) 4547007122018943789
theorem chM_0 : ∀ i : Nat, i < 16 → ∀ j : Nat, j < 64 → chM i j = true := by decide +kernel

end Go.Proofs.Ytimhljcebeiofaa
