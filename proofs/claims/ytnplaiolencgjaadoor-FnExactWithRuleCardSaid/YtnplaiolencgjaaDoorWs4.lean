/- Walks: the reference's functions on two tables, on a held input, on signs. -/
import Derived.Test.YtnplaiolencgjaaDoorPd
import Derived.Test.YtnplaiolencgjaaDoorWs3
namespace Go.Proofs.YtnplaiolencgjaaDoor
set_option linter.unusedVariables false
set_option linter.unusedSimpArgs false
open Go.RowKit

theorem l1SetS (s i : Nat) (v : Int) (w : World) (hs : s < 32) (hi : i < 5) (h0 : 0 ≤ v) (h1 : v ≤ 1) :
    Calls Tryd.prog 54 #[.int .i64 (s : Int), .int .i64 (i : Int), .int .i64 v] w fun e w' => e = .returned (.int .i64 ((holdN s i v.toNat : Nat) : Int)) ∧ w = w' := by
  have E := Lib.hid (hold_bits s i v hs hi h0 h1)
  go_enter Tryd.func54, Tryd.ntmps54
  go_wp2
  go_ret
  exact ⟨ret_int E.out, rfl⟩

end Go.Proofs.YtnplaiolencgjaaDoor
