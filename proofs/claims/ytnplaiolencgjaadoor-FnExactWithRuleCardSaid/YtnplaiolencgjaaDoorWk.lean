/- Walks: the states of a term. -/
import Derived.Test.YtnplaiolencgjaaDoorPe
import Derived.Test.YtnplaiolencgjaaDoorWs2
import Derived.Test.YtnplaiolencgjaaDoorWn
namespace Go.Proofs.YtnplaiolencgjaaDoor
set_option linter.unusedVariables false
set_option linter.unusedSimpArgs false
open Go.RowKit

theorem l1BitQ (s i : Nat) (w : World) (hs : s ≤ 65536) (hi : i ≤ 60) :
    Calls Tryd.prog 53 #[.int .i64 (s : Int), .int .i64 (i : Int)] w fun e w' => e = .returned (.int .i64 ((bitN s i : Nat) : Int)) ∧ w' = w :=
  (l1BitS s i w hs hi).mono fun _ _ ⟨he, hw⟩ => ⟨he, hw.symm⟩

end Go.Proofs.YtnplaiolencgjaaDoor
