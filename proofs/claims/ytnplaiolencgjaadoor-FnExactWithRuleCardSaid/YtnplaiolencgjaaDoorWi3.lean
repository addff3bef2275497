/- Walks: the program's functions on two tables and on a held input. -/
import Derived.Test.YtnplaiolencgjaaDoorPd
import Derived.Test.YtnplaiolencgjaaDoorWr
namespace Go.Proofs.YtnplaiolencgjaaDoor
set_option linter.unusedVariables false
set_option linter.unusedSimpArgs false
open Go.RowKit

theorem holdI (s i : Nat) (v : Int) (w : World) (hs : s < 32) (hi : i < 5) (h0 : 0 ≤ v) (h1 : v ≤ 1) :
    Calls Tryd.prog 57 #[.int .i64 (s : Int), .int .i64 (i : Int), .int .i64 v] w fun e w' => e = .returned (.int .i64 ((holdN s i v.toNat : Nat) : Int)) ∧ ∃ n, w' = w.drewN n := by
  have E := Lib.hid (hold_bits s i v hs hi h0 h1)
  go_enter Tryd.func57, Tryd.ntmps57
  go_wp2_with fail
  go_quiet (fail)
  go_wp2_with fail
  go_ret
  exact ⟨ret_int E.out, ⟨_, rfl⟩⟩

theorem below_draws {w w' : World} (h : ∃ n, w' = w.drewN n) : Below w.heap.size w w' := by
  obtain ⟨n, rfl⟩ := h
  exact ⟨rfl, rfl, rfl, Nat.le_refl _, fun _ _ => rfl⟩

end Go.Proofs.YtnplaiolencgjaaDoor
