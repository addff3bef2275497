/- Walks: the reference's functions that make tables. -/
import Derived.Test.YtnplaiolencgjaaDoorWs
import Derived.Test.YtnplaiolencgjaaDoorWt
namespace Go.Proofs.YtnplaiolencgjaaDoor
set_option linter.unusedVariables false
set_option linter.unusedSimpArgs false
open Go.RowKit

theorem l1BitS (s i : Nat) (w : World) (hs : s ≤ 65536) (hi : i ≤ 60) :
    Calls Tryd.prog 53 #[.int .i64 (s : Int), .int .i64 (i : Int)] w fun e w' => e = .returned (.int .i64 ((bitN s i : Nat) : Int)) ∧ w = w' := by
  have E := Lib.hid (bit_and s i (by omega))
  go_enter Tryd.func53, Tryd.ntmps53
  go_wp2
  go_ret
  exact ⟨ret_int E.out, rfl⟩

end Go.Proofs.YtnplaiolencgjaaDoor
