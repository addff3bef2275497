/- Walks: the program's functions on two tables. -/
import Derived.Test.YtnplaiolencgjaaWi3
namespace Go.Proofs.Ytnplaiolencgjaa
set_option linter.unusedVariables false
set_option linter.unusedSimpArgs false
open Go.RowKit

/-- What a function of two values, handed over as a value, does. -/
def Fv2 (gf : Nat) (val : Nat → Nat → Nat) : Prop :=
  ∀ a b : Nat, a ≤ 1 → b ≤ 1 → ∀ w : World, Calls Try.prog gf #[.int .u8 (a : Int), .int .u8 (b : Int)] w fun e w' => e = .returned (.int .u8 ((val a b : Nat) : Int)) ∧ w' = w

end Go.Proofs.Ytnplaiolencgjaa
