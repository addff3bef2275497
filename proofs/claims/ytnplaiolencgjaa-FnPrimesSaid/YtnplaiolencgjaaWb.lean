/- Walks: lists are compared. -/
import Derived.Test.YtnplaiolencgjaaPe
import Derived.Test.YtnplaiolencgjaaWq
import Derived.Test.YtnplaiolencgjaaWt
import Derived.Deep.QuietTactic
import Derived.BigQuiet
namespace Go.Proofs.Ytnplaiolencgjaa
set_option linter.unusedVariables false
set_option linter.unusedSimpArgs false
open Go.RowKit

theorem below_drewNb {B : Nat} {a w : World} (h : Below B a w) (n : Nat) : Below B a (w.drewN n) := ⟨h.os, h.tape, h.output, h.size, h.block⟩

theorem bnTexts_some (zs : List (List UInt8)) (b o c b2 o2 c2 : Nat) (w : World) (hl : zs.length ≤ 1048576) (h1 : ∀ k z, zs[k]? = some z → w.cell? ⟨b, o + k, none⟩ = some (.string ⟨z.toArray⟩)) (h2 : ∀ k z, zs[k]? = some z → w.cell? ⟨b2, o2 + k, none⟩ = some (.string ⟨z.toArray⟩)) :
    Calls Try.prog 6 #[.slice (some ⟨b, o, none⟩) zs.length c, .slice (some ⟨b2, o2, none⟩) zs.length c2] w fun e w' => e = .returned (.bool true) ∧ Below w.heap.size w w' := by
  have H1 := Lib.hid h1
  have H2 := Lib.hid h2
  obtain ⟨m, hm⟩ : ∃ m, m = zs.length := ⟨_, rfl⟩
  rw [← hm]
  rw [← hm] at hl
  have HM := Lib.hid hm
  clear h1 h2 hm
  go_enter Try.func6, Try.ntmps6
  go_wp2_with fail
  go_loopw [5] (fun i wr => ∃ k : Nat, k ≤ m ∧ i = .int .i64 k ∧ Hid (∃ n, wr = w.drewN n)) (fun i _ => m - (intOf i).toNat)
  case atStart => exact ⟨0, Nat.zero_le _, rfl, ⟨0, rfl⟩⟩
  case round =>
    obtain ⟨k, hk, rfl, hW⟩ := hrel
    by_cases hlt : k < m
    · obtain ⟨z, hz⟩ : ∃ z, zs[k]? = some z := ⟨_, List.getElem?_eq_getElem (by rw [HM.out] at hlt; exact hlt)⟩
      have c1 : wr.cell? ⟨b, o + k, none⟩ = some (.string ⟨z.toArray⟩) := by obtain ⟨n, rfl⟩ := hW.out; exact H1.out k z hz
      have c2 : wr.cell? ⟨b2, o2 + k, none⟩ = some (.string ⟨z.toArray⟩) := by obtain ⟨n, rfl⟩ := hW.out; exact H2.out k z hz
      clear hz
      go_wp2_with fail
      go_quiet (fail)
      go_wp2_with fail
      go_roundw
      case rel =>
        refine ⟨k + 1, by omega, by go_num, ?_⟩
        obtain ⟨n, rfl⟩ := hW.out
        exact ⟨n + nq, by rw [World.drewN_drewN]⟩
      case measure => simp [intOf]; omega
    · go_wp2_with fail
      go_ret
      refine ⟨rfl, ?_⟩
      obtain ⟨n, rfl⟩ := hW.out
      exact below_drewNb (Below.refl _ _) n

theorem bnTexts_nil (A B : Option Addr) (c d : Nat) (w : World) :
    Calls Try.prog 6 #[.slice A 0 c, .slice B 0 d] w fun e w' => e = .returned (.bool true) ∧ w = w' := by
  go_enter Try.func6, Try.ntmps6
  go_wp2_with fail
  refine wp_loop_rounds 1 ?_
  rw [rounds_succ]
  go_wp2_with fail
  go_ret
  exact ⟨rfl, rfl⟩

theorem bnTextsLb (zs : List (List UInt8)) (v u : Value) (w : World) (hl : zs.length ≤ 1048576) (h1 : Row w v (textsV zs)) (h2 : Row w u (textsV zs)) :
    Calls Try.prog 6 #[v, u] w fun e w' => e = .returned (.bool true) ∧ Below w.heap.size w w' := by
  obtain ⟨A, c, rfl, a1, a2, hA⟩ := h1
  obtain ⟨B, d, rfl, b1, b2, hB⟩ := h2
  rw [show (textsV zs).length = zs.length by simp [textsV]]
  by_cases hz : zs = []
  · subst hz
    exact (bnTexts_nil A B c d w).mono fun e w' ⟨he, hw⟩ => ⟨he, hw ▸ Below.refl _ _⟩
  · obtain ⟨b, off, rfl, hlt, hk⟩ := hA (by simpa [textsV] using hz)
    obtain ⟨b', off', rfl, hlt', hk'⟩ := hB (by simpa [textsV] using hz)
    exact bnTexts_some zs b off c b' off' d w hl (fun k z h => hk k _ (textsV_get _ _ _ h)) (fun k z h => hk' k _ (textsV_get _ _ _ h))

theorem bnTextsL (zs : List (List UInt8)) (v u : Value) (w : World) (hl : zs.length ≤ 65536) (h1 : Row w v (textsV zs)) (h2 : Row w u (textsV zs)) :
    Calls Try.prog 6 #[v, u] w fun e w' => e = .returned (.bool true) ∧ Below w.heap.size w w' := bnTextsLb zs v u w (Nat.le_trans hl (by decide)) h1 h2


/-- A list of texts that a function returned. -/
def Tex (w : World) (base : Nat) (A : Option Addr) (ts : List (List UInt8)) : Prop :=
  ∀ k t, ts[k]? = some t → ∃ g, A = some ⟨g, 0, none⟩ ∧ base ≤ g ∧ w.cell? ⟨g, k, none⟩ = some (.string ⟨t.toArray⟩)
theorem res_texts {w : World} {base : Nat} {e : TypeId} {v : Value} {ts : List (List UInt8)} (h : Res w base e v (textsV ts)) : ∃ A c, v = .slice A ts.length c ∧ ts.length ≤ c ∧ c ≤ maxLen ∧ Tex w base A ts := by
  obtain ⟨A, c, hv, h1, h2, hc⟩ := h
  rw [textsV_length] at hv h1
  refine ⟨A, c, hv, h1, h2, fun k t ht => ?_⟩
  have hu := textsV_get ts k t ht
  obtain ⟨g, cur, hA, hbg, hg, hk⟩ := hc (fun e => by rw [e] at hu; cases hu)
  exact ⟨g, hA, hbg, by rw [cell_of_row _ _ _ _ _ _ hg]; exact hk k _ hu⟩
theorem Tex.keep {w w' : World} {base : Nat} {A : Option Addr} {ts : List (List UInt8)} (h : Tex w base A ts) (hb : Below w.heap.size w w') : Tex w' base A ts := fun k t ht => by
  obtain ⟨g, hA, hbg, hc⟩ := h k t ht
  exact ⟨g, hA, hbg, (hb.cell (p := ⟨g, k, none⟩) (World.block_lt_of_cell? _ _ hc)).trans hc⟩

end Go.Proofs.Ytnplaiolencgjaa
