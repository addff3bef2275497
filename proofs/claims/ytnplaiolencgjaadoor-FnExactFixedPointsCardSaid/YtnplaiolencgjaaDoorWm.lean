/- Walks: lists of numbers are compared, marked, held. -/
import Derived.Test.YtnplaiolencgjaaDoorPd
import Derived.Test.YtnplaiolencgjaaDoorWq
import Derived.Test.YtnplaiolencgjaaDoorChecked
import Derived.WalkLawsBesides
import Derived.WalkSpells
import Derived.Lib.Hide
import Derived.IntWalk
import Derived.Deep.Light
import Derived.Deep.QuietTactic
import Derived.BigQuiet
import Derived.Outline
namespace Go.Proofs.YtnplaiolencgjaaDoor
set_option linter.unusedVariables false
set_option linter.unusedSimpArgs false
open Go.RowKit

theorem below_drewN {B : Nat} {a w : World} (h : Below B a w) (n : Nat) : Below B a (w.drewN n) := ⟨h.os, h.tape, h.output, h.size, h.block⟩

theorem eqIntS_some (zs : List Nat) (b o c b2 o2 c2 : Nat) (w : World) (hl : zs.length ≤ 65536) (h1 : ∀ k z, zs[k]? = some z → w.cell? ⟨b, o + k, none⟩ = some (.int .i64 ((z : Nat) : Int))) (h2 : ∀ k z, zs[k]? = some z → w.cell? ⟨b2, o2 + k, none⟩ = some (.int .i64 ((z : Nat) : Int))) :
    Calls Tryd.prog 27 #[.slice (some ⟨b, o, none⟩) zs.length c, .slice (some ⟨b2, o2, none⟩) zs.length c2] w fun e w' => e = .returned (.bool true) ∧ Below w.heap.size w w' := by
  have H1 := Lib.hid h1
  have H2 := Lib.hid h2
  obtain ⟨m, hm⟩ : ∃ m, m = zs.length := ⟨_, rfl⟩
  rw [← hm]
  rw [← hm] at hl
  have HM := Lib.hid hm
  clear h1 h2 hm
  go_enter Tryd.func27, Tryd.ntmps27
  go_wp2_with fail
  go_loopw [5] (fun i wr => ∃ k : Nat, k ≤ m ∧ i = .int .i64 k ∧ Hid (∃ n, wr = w.drewN n)) (fun i _ => m - (intOf i).toNat)
  case atStart => exact ⟨0, Nat.zero_le _, rfl, ⟨0, rfl⟩⟩
  case round =>
    obtain ⟨k, hk, rfl, hW⟩ := hrel
    by_cases hlt : k < m
    · obtain ⟨z, hz⟩ : ∃ z, zs[k]? = some z := ⟨_, List.getElem?_eq_getElem (by rw [HM.out] at hlt; exact hlt)⟩
      have c1 : wr.cell? ⟨b, o + k, none⟩ = some (.int .i64 ((z : Nat) : Int)) := by obtain ⟨n, rfl⟩ := hW.out; exact H1.out k z hz
      have c2 : wr.cell? ⟨b2, o2 + k, none⟩ = some (.int .i64 ((z : Nat) : Int)) := by obtain ⟨n, rfl⟩ := hW.out; exact H2.out k z hz
      clear hz
      go_wp2_with fail
      go_quiet (fail)
      go_wp2_with fail
      go_roundw
      case rel =>
        refine ⟨k + 1, by omega, by go_num, ?_⟩
        obtain ⟨n, rfl⟩ := hW.out
        exact ⟨n + nq, by rw [World.drewN_drewN]⟩
      case measure => simp [intOf]; omega
    · go_wp2_with fail
      go_ret
      refine ⟨rfl, ?_⟩
      obtain ⟨n, rfl⟩ := hW.out
      exact below_drewN (Below.refl _ _) n

theorem eqIntS_nil (A B : Option Addr) (c d : Nat) (w : World) :
    Calls Tryd.prog 27 #[.slice A 0 c, .slice B 0 d] w fun e w' => e = .returned (.bool true) ∧ w = w' := by
  go_enter Tryd.func27, Tryd.ntmps27
  go_wp2_with fail
  refine wp_loop_rounds 1 ?_
  rw [rounds_succ]
  go_wp2_with fail
  go_ret
  exact ⟨rfl, rfl⟩

theorem eqIntSL (zs : List Nat) (v u : Value) (w : World) (hl : zs.length ≤ 65536) (h1 : Row w v (natsV zs)) (h2 : Row w u (natsV zs)) :
    Calls Tryd.prog 27 #[v, u] w fun e w' => e = .returned (.bool true) ∧ Below w.heap.size w w' := by
  obtain ⟨A, c, rfl, a1, a2, hA⟩ := h1
  obtain ⟨B, d, rfl, b1, b2, hB⟩ := h2
  rw [show (natsV zs).length = zs.length by simp [natsV]]
  by_cases hz : zs = []
  · subst hz
    exact (eqIntS_nil A B c d w).mono fun e w' ⟨he, hw⟩ => ⟨he, hw ▸ Below.refl _ _⟩
  · obtain ⟨b, off, rfl, hlt, hk⟩ := hA (by simpa [natsV] using hz)
    obtain ⟨b', off', rfl, hlt', hk'⟩ := hB (by simpa [natsV] using hz)
    exact eqIntS_some zs b off c b' off' d w hl (fun k z h => hk k _ (by simp [natsV, h])) (fun k z h => hk' k _ (by simp [natsV, h]))

/-- The numbers 1, 2, .. that a list is marked with. -/
def marksI (n : Nat) : List Nat := (List.range n).map (· + 1)

theorem markIntS_some (g m c : Nat) (cur : Array Value) (e0 : TypeId) (w : World) (hm : m ≤ 65536) (hmc : m ≤ cur.size) (hg : w.heap[g]? = some (.cells cur e0 (0, 0))) :
    Calls Tryd.prog 28 #[.slice (some ⟨g, 0, none⟩) m c, .int .i64 1] w fun e w' => e = .returned (.int .i64 ((1 + m : Nat) : Int)) ∧ ∃ cur', w'.heap[g]? = some (.cells cur' e0 (0, 0)) ∧ (∀ k, k < m → cur'[k]? = some (.int .i64 ((k + 1 : Nat) : Int))) ∧ w.grownBy w' (some g) := by
  have HG := Lib.hid hg
  clear hg
  go_enter Tryd.func28, Tryd.ntmps28
  go_wp2_with fail
  go_loopw [1, 5] (fun q i wr => ∃ (k : Nat) (cu : Array Value), k ≤ m ∧ i = .int .i64 k ∧ q = .int .i64 ((1 + k : Nat) : Int) ∧ Hid (cu.size = cur.size) ∧ Hid (wr.heap[g]? = some (.cells cu e0 (0, 0))) ∧ Hid (∀ j, j < k → cu[j]? = some (.int .i64 ((j + 1 : Nat) : Int))) ∧ w.grownBy wr (some g)) (fun _ i _ => m - (intOf i).toNat)
  case atStart => exact ⟨0, cur, Nat.zero_le _, rfl, rfl, rfl, HG, fun j hj => absurd hj (by omega), World.grownBy.refl w _⟩
  case round =>
    obtain ⟨k, cu, hk, rfl, rfl, hS, hB, hJ, hGr⟩ := hrel
    by_cases hlt : k < m
    · have hkc : k < cu.size := by rw [hS.out]; omega
      have c1 : wr.cell? ⟨g, k, none⟩ = some cu[k] := by rw [cell_of_row _ _ _ _ _ _ hB.out]; simp
      have c2 : wr.frozen? ⟨g, k, none⟩ = false := frozen_of_row _ _ _ _ _ hB.out
      have HN := Lib.hid (heap_setCell_same wr g k cu e0 (.int .i64 ((1 + k : Nat) : Int)) hB.out)
      generalize cu[k] = old at *
      go_wp2_with fail
      go_roundw
      case rel =>
        refine ⟨k + 1, cu.setIfInBounds k (.int .i64 ((1 + k : Nat) : Int)), by omega, by go_num, by go_num, ?_, HN, fun j hj => ?_, ?_⟩
        · show _ = _
          rw [Array.size_setIfInBounds]; exact hS.out
        · rw [Array.getElem?_setIfInBounds]
          by_cases e : k = j
          · subst e; rw [if_pos rfl, if_pos (by rw [hS.out]; omega), Nat.add_comm]
          · rw [if_neg e]; exact hJ.out j (by omega)
        · exact ⟨hGr.os, hGr.tape, hGr.output, by simpa [World.setCell] using hGr.size, fun i hi hne => (Below.heap_setCell wr ⟨g, k, none⟩ _ i (fun e => hne (by rw [e]))).trans (hGr.block i hi hne)⟩
      case measure => simp [intOf]; omega
    · obtain rfl : k = m := by omega
      go_wp2_with fail
      go_ret
      exact ⟨rfl, cu, hB.out, fun j hj => hJ.out j hj, hGr⟩

theorem markIntS_nil (A : Option Addr) (c : Nat) (w : World) :
    Calls Tryd.prog 28 #[.slice A 0 c, .int .i64 1] w fun e w' => e = .returned (.int .i64 1) ∧ w = w' := by
  go_enter Tryd.func28, Tryd.ntmps28
  go_wp2_with fail
  refine wp_loop_rounds 1 ?_
  rw [rounds_succ]
  go_wp2_with fail
  go_ret
  exact ⟨rfl, rfl⟩

theorem markIntSL (zs : List Nat) (v : Value) (base : Nat) (e0 : TypeId) (w : World) (hl : zs.length ≤ 65536) (hb : base ≤ w.heap.size) (h : Res w base e0 v (natsV zs)) :
    Calls Tryd.prog 28 #[v, .int .i64 1] w fun e w' => e = .returned (.int .i64 ((1 + zs.length : Nat) : Int)) ∧ Res w' base e0 v (natsV (marksI zs.length)) ∧ Below base w w' := by
  obtain ⟨A, c, rfl, a1, a2, hA⟩ := h
  have hn : (natsV zs).length = zs.length := by simp [natsV]
  have hn2 : (natsV (marksI zs.length)).length = zs.length := by simp [natsV, marksI]
  rw [hn] at a1 ⊢
  by_cases hz : zs = []
  · subst hz
    refine (markIntS_nil A c w).mono ?_
    rintro e w' ⟨rfl, rfl⟩
    exact ⟨rfl, ⟨A, c, rfl, Nat.zero_le _, a2, fun h => absurd rfl h⟩, Below.refl _ _⟩
  · obtain ⟨g, cur, rfl, hbg, hg, hk⟩ := hA (by simpa [natsV] using hz)
    have hmc : zs.length ≤ cur.size := by
      have hp : 0 < zs.length := List.length_pos_iff.2 hz
      have hx : (natsV zs)[zs.length - 1]? = some ((natsV zs)[zs.length - 1]'(by omega)) := List.getElem?_eq_getElem _
      have := (Array.getElem?_eq_some_iff.1 (hk _ _ hx)).1
      omega
    refine (markIntS_some g zs.length c cur e0 w hl hmc hg).mono ?_
    rintro e w' ⟨rfl, cur', hg', hk', hgr⟩
    refine ⟨rfl, ⟨some ⟨g, 0, none⟩, c, by rw [hn2], by omega, a2, fun _ => ⟨g, cur', rfl, hbg, hg', fun k u hu => ?_⟩⟩, (Below.refl _ _).grown hgr hb (fun k hk => by injection hk with hk; omega)⟩
    have hkl : k < zs.length := by have := (List.getElem?_eq_some_iff.1 hu).1; omega
    rw [hk' k hkl]
    rw [← hu]
    simp [natsV, marksI, hkl]

theorem heldIntS_some (b o c m : Nat) (w : World) (hm : m ≤ 65536) (h1 : ∀ k, k < m → w.cell? ⟨b, o + k, none⟩ = some (.int .i64 ((k + 1 : Nat) : Int))) :
    Calls Tryd.prog 29 #[.slice (some ⟨b, o, none⟩) m c, .int .i64 1] w fun e w' => e = .returned (.int .i64 ((1 + m : Nat) : Int)) ∧ w = w' := by
  have H1 := Lib.hid h1
  clear h1
  go_enter Tryd.func29, Tryd.ntmps29
  go_wp2_with fail
  go_loop [1, 5] (fun q i => ∃ k : Nat, k ≤ m ∧ i = .int .i64 k ∧ q = .int .i64 ((1 + k : Nat) : Int)) (fun _ i => m - (intOf i).toNat)
  case atStart => exact ⟨0, Nat.zero_le _, rfl, rfl⟩
  case round =>
    obtain ⟨k, hk, rfl, rfl⟩ := hrel
    by_cases hlt : k < m
    · have c1 : w.cell? ⟨b, o + k, none⟩ = some (.int .i64 ((1 + k : Nat) : Int)) := by rw [Nat.add_comm 1 k]; exact H1.out k hlt
      go_wp2_with fail
      go_round
      case rel => exact ⟨k + 1, by omega, by go_num, by go_num⟩
      case measure => simp [intOf]; omega
    · obtain rfl : k = m := by omega
      go_wp2_with fail
      go_ret
      exact ⟨rfl, rfl⟩

theorem heldIntS_nil (A : Option Addr) (c : Nat) (w : World) :
    Calls Tryd.prog 29 #[.slice A 0 c, .int .i64 1] w fun e w' => e = .returned (.int .i64 1) ∧ w = w' := by
  go_enter Tryd.func29, Tryd.ntmps29
  go_wp2_with fail
  refine wp_loop_rounds 1 ?_
  rw [rounds_succ]
  go_wp2_with fail
  go_ret
  exact ⟨rfl, rfl⟩

theorem heldIntSL (m : Nat) (v : Value) (w : World) (hm : m ≤ 65536) (h : Row w v (natsV (marksI m))) :
    Calls Tryd.prog 29 #[v, .int .i64 1] w fun e w' => e = .returned (.int .i64 ((1 + m : Nat) : Int)) ∧ w = w' := by
  obtain ⟨A, c, rfl, a1, a2, hA⟩ := h
  have hn : (natsV (marksI m)).length = m := by simp [natsV, marksI]
  rw [hn]
  by_cases hz : m = 0
  · subst hz
    exact heldIntS_nil A c w
  · obtain ⟨b, off, rfl, hlt, hk⟩ := hA (by intro h; rw [h] at hn; exact hz hn.symm)
    exact heldIntS_some b off c m w hm (fun k hkm => hk k _ (by simp [natsV, marksI, hkm]))

theorem heldIntSB (m : Nat) (v : Value) (w : World) (hm : m ≤ 65536) (h : Row w v (natsV (marksI m))) :
    Calls Tryd.prog 29 #[v, .int .i64 1] w fun e w' => e = .returned (.int .i64 ((1 + m : Nat) : Int)) ∧ Below w.heap.size w w' :=
  (heldIntSL m v w hm h).mono fun _ _ ⟨he, hw⟩ => ⟨he, hw ▸ Below.refl _ _⟩

end Go.Proofs.YtnplaiolencgjaaDoor
