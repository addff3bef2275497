/- Walks: the program's functions on two tables and on a held input. -/
import Derived.Test.YtnplaiolencgjaaPd
import Derived.Test.YtnplaiolencgjaaWr
namespace Go.Proofs.Ytnplaiolencgjaa
set_option linter.unusedVariables false
set_option linter.unusedSimpArgs false
open Go.RowKit

theorem below_draws {w w' : World} (h : ∃ n, w' = w.drewN n) : Below w.heap.size w w' := by
  obtain ⟨n, rfl⟩ := h
  exact ⟨rfl, rfl, rfl, Nat.le_refl _, fun _ _ => rfl⟩

end Go.Proofs.Ytnplaiolencgjaa
