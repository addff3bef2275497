/- Walks: the reference draws terms. -/
import Derived.Test.YtnplaiolencgjaaWd3
import Derived.Test.YtnplaiolencgjaaWp2
import Derived.Test.YtnplaiolencgjaaWb
namespace Go.Proofs.Ytnplaiolencgjaa
set_option linter.unusedVariables false
set_option linter.unusedSimpArgs false
open Go.RowKit

def TermPost (N : Nat) (g : Nat) (A : Option Addr) (n c P : Nat) (w : World) (e : Ending) (w' : World) : Prop :=
  ∃ x : ByteArray, x.size = N ∧ e = .returned (.string x) ∧ w.grownBy w' (some g) ∧ Rd g A n c P w'

theorem ne_block {b g : Nat} (k : Nat) (sp : Option Nat) (h : b ≠ g) : some (⟨b, k, sp⟩ : Addr).block ≠ some g := fun e => by injection e with e; exact h e

/-- An element of a list is taken. -/
def PickT (ts : List (List UInt8)) (L g : Nat) (A : Option Addr) (n c P : Nat) (B : Option Addr) (w : World) (e : Ending) (w' : World) : Prop :=
  ∃ (r : Nat) (t : List UInt8) (bb : Nat), e = .returned (.int .i64 (r : Int)) ∧ r < L ∧ B = some ⟨bb, 0, none⟩ ∧ w'.cell? ⟨bb, r, none⟩ = some (.string ⟨t.toArray⟩) ∧ t ∈ ts ∧ w.grownBy w' (some g) ∧ Rd g A n c (P + 1) w'
theorem pickT (ts : List (List UInt8)) (L base g : Nat) (A : Option Addr) (n c P : Nat) (B : Option Addr) (w : World) (h : Rd g A n c P w) (hP : P ≤ 900000) (hL : L = ts.length) (h0 : 0 < L) (hm : L ≤ 1000) (hbg : g < base) (ht : Tex w base B ts) :
    Calls Try.prog 48 #[.pointer (some ⟨g, 0, none⟩), .int .i64 (L : Int)] w.drew (PickT ts L g A n c P B w) := by
  refine (pickS g A n c P (L : Int) w.drew h (by omega) (by omega)).mono ?_
  rintro e w5 ⟨r, he, hr, _, hg5, hR5⟩
  have hrL : r < L := by have := hr (by omega); omega
  obtain ⟨t, hrt⟩ : ∃ t, ts[r]? = some t := ⟨_, List.getElem?_eq_getElem (by rw [← hL]; exact hrL)⟩
  obtain ⟨bb, hB, hbb, hcell⟩ := ht r t hrt
  exact ⟨r, t, bb, he, hrL, hB, hg5.cell (w := w.drew) hcell (ne_block _ _ (by omega)), List.mem_of_getElem? hrt, ⟨hg5.os, hg5.tape, hg5.output, hg5.size, hg5.block⟩, hR5⟩

end Go.Proofs.Ytnplaiolencgjaa
