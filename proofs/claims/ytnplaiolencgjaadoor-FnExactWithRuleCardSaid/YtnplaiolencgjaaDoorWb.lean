/- Walks: lists are compared. -/
import Derived.Test.YtnplaiolencgjaaDoorPe
import Derived.Test.YtnplaiolencgjaaDoorWq
import Derived.Test.YtnplaiolencgjaaDoorWt
import Derived.Deep.QuietTactic
import Derived.BigQuiet
namespace Go.Proofs.YtnplaiolencgjaaDoor
set_option linter.unusedVariables false
set_option linter.unusedSimpArgs false
open Go.RowKit

theorem below_drewNb {B : Nat} {a w : World} (h : Below B a w) (n : Nat) : Below B a (w.drewN n) := ⟨h.os, h.tape, h.output, h.size, h.block⟩


/-- A list of texts that a function returned. -/
def Tex (w : World) (base : Nat) (A : Option Addr) (ts : List (List UInt8)) : Prop :=
  ∀ k t, ts[k]? = some t → ∃ g, A = some ⟨g, 0, none⟩ ∧ base ≤ g ∧ w.cell? ⟨g, k, none⟩ = some (.string ⟨t.toArray⟩)
theorem res_texts {w : World} {base : Nat} {e : TypeId} {v : Value} {ts : List (List UInt8)} (h : Res w base e v (textsV ts)) : ∃ A c, v = .slice A ts.length c ∧ ts.length ≤ c ∧ c ≤ maxLen ∧ Tex w base A ts := by
  obtain ⟨A, c, hv, h1, h2, hc⟩ := h
  rw [textsV_length] at hv h1
  refine ⟨A, c, hv, h1, h2, fun k t ht => ?_⟩
  have hu := textsV_get ts k t ht
  obtain ⟨g, cur, hA, hbg, hg, hk⟩ := hc (fun e => by rw [e] at hu; cases hu)
  exact ⟨g, hA, hbg, by rw [cell_of_row _ _ _ _ _ _ hg]; exact hk k _ hu⟩
theorem Tex.keep {w w' : World} {base : Nat} {A : Option Addr} {ts : List (List UInt8)} (h : Tex w base A ts) (hb : Below w.heap.size w w') : Tex w' base A ts := fun k t ht => by
  obtain ⟨g, hA, hbg, hc⟩ := h k t ht
  exact ⟨g, hA, hbg, (hb.cell (p := ⟨g, k, none⟩) (World.block_lt_of_cell? _ _ hc)).trans hc⟩

end Go.Proofs.YtnplaiolencgjaaDoor
