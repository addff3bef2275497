/- Walks: the reference's functions that make tables by lists. -/
import Derived.Test.YtnplaiolencgjaaWs2
namespace Go.Proofs.Ytnplaiolencgjaa
set_option linter.unusedVariables false
set_option linter.unusedSimpArgs false
open Go.RowKit

theorem infoI : (Try.prog.info? 3).map (fun i => (i.zero, i.size, i.bytes)) = some (some (.int .i64 0), 1, 8) := by kernel_rfl

theorem l1AtZ (f : ByteArray) (s : Int) (w : World) (h0 : 0 ≤ s) (hs : s < f.size) (hz : f.data.toList.all zb = true) :
    Calls Try.prog 56 #[.string f, .int .i64 s] w fun e w' => e = .returned (.int .i64 ((tv f.data.toList s.toNat : Nat) : Int)) ∧ w = w' := by
  obtain ⟨s, rfl⟩ := Int.eq_ofNat_of_zero_le h0
  exact l1AtS f s w (by omega) hz

end Go.Proofs.Ytnplaiolencgjaa
