/- Walks: implicants; a list of texts is searched. -/
import Derived.Test.YtnplaiolencgjaaDoorWk
import Derived.Test.YtnplaiolencgjaaDoorWr
import Derived.Test.YtnplaiolencgjaaDoorWq
namespace Go.Proofs.YtnplaiolencgjaaDoor
set_option linter.unusedVariables false
set_option linter.unusedSimpArgs false
open Go.RowKit

theorem below_draws2 {w w' : World} (h : ∃ n, w' = w.drewN n) : Below w.heap.size w w' := by
  obtain ⟨n, rfl⟩ := h
  exact ⟨rfl, rfl, rfl, Nat.le_refl _, fun _ _ => rfl⟩

/-- What a test of texts, handed over as a value, does. -/
def Ft (w : World) (gf : Nat) (caps : Array Value) (ts : List (List UInt8)) (p : List UInt8 → Bool) : Prop :=
  ∀ t ∈ ts, ∀ w1 : World, Below w.heap.size w w1 → Calls Tryd.prog gf (#[.string ⟨t.toArray⟩] ++ caps) w1 fun e w2 => e = .returned (.bool (p t)) ∧ Below w1.heap.size w1 w2

/-- An index, or a number below 0. -/
def IdxPost (b : Bool) (w : World) (e : Ending) (w' : World) : Prop := ∃ r : Int, e = .returned (.int .i64 r) ∧ decide (0 ≤ r) = b ∧ Below w.heap.size w w'

end Go.Proofs.YtnplaiolencgjaaDoor
