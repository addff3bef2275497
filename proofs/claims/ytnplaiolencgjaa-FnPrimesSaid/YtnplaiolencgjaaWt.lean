/- Walks: tables. -/
import Derived.Test.YtnplaiolencgjaaWl
import Derived.Test.YtnplaiolencgjaaChecked
import Derived.WalkLawsBesides
import Derived.WalkSpells
import Derived.Lib.Hide
import Derived.IntWalk
import Derived.Deep.Light
import Derived.Deep.QuietTactic
import Derived.BigQuiet
import Derived.Outline
namespace Go.Proofs.Ytnplaiolencgjaa
set_option linter.unusedVariables false
set_option linter.unusedSimpArgs false
open Go.RowKit

theorem zeroT (w : World) : (zeroValue 38).run Try.prog w = .ok (.agg (tcells 0 (fun _ => 0))) w := by kernel_rfl

theorem infoT : (Try.prog.info? 38).map (·.size) = some 33 := by kernel_rfl

theorem width (n : Nat) (g : Nat → Nat) (h5 : n ≤ 5) (w : World) :
    Calls Try.prog 42 #[.agg (tcells n g)] w fun e w' => e = .returned (.int .i64 ((2 ^ n : Nat) : Int)) ∧ Below w.heap.size w w' := by
  have h0 := tcells_zero n g
  obtain rfl | rfl | rfl | rfl | rfl | rfl : n = 0 ∨ n = 1 ∨ n = 2 ∨ n = 3 ∨ n = 4 ∨ n = 5 := by omega
  all_goals
    go_enter Try.func42, Try.ntmps42
    go_wp2
    go_ret
    exact ⟨rfl, (Below.refl _ _).alloc (Nat.le_refl _) _⟩

/-- What a function of states, handed over as a value, does. -/
def Fv (w : World) (gf : Nat) (caps : Array Value) (m : Nat) (val : Nat → Nat) : Prop :=
  ∀ s : Nat, s < m → ∀ w1 : World, Below w.heap.size w w1 → Calls Try.prog gf (#[.int .i64 (s : Int)] ++ caps) w1 fun e w2 => e = .returned (.int .u8 ((val s : Nat) : Int)) ∧ Below w1.heap.size w1 w2

theorem build_n (n : Nat) : Try.prog.built 38 [(0, .int .i64 (n : Int))] = some (tcells n (fun _ => 0)) := by kernel_rfl

theorem build_0 : Try.prog.built 38 [] = some (tcells 0 (fun _ => 0)) := by kernel_rfl

theorem each (n m : Nat) (gf : Nat) (caps : Array Value) (val : Nat → Nat) (h5 : n ≤ 5) (hm : 2 ^ n = m) (w : World) (eg : ∀ args w, (callFunc gf args).run Try.prog w = .ok (.enter gf args) w) (hv : Fv w gf caps m val) :
    Calls Try.prog 25 #[.int .i64 (n : Int), .func (.func gf) #[] caps] w fun e w' => e = .returned (.agg (tcells n (upto m val))) ∧ Below w.heap.size w w' := by
  have hV := Lib.hid hv
  have hM := Lib.hid hm
  have hm32 : m ≤ 32 := by rw [← hm]; exact pow_le32 n h5
  clear hv hm
  go_enter Try.func25, Try.ntmps25
  go_wp2_with (first
    | ((with_reducible refine wpList_alloc_row 38 _ zeroT ?_); (try simp only [Act.put, List.setIfInBounds_toArray, List.set_cons_succ, List.set_cons_zero, World.size_alloc, Nat.add_assoc, Nat.reduceAdd]))
    | ((with_reducible refine wpList_build1 38 _ _ (.int .i64 (n : Int)) _ ?_ (build_n n) ?_); rfl; (try simp only [Act.put, List.setIfInBounds_toArray, List.set_cons_succ, List.set_cons_zero, World.size_alloc, Nat.add_assoc, Nat.reduceAdd]))
    | ((with_reducible refine wpList_storeT_new 38 _ _ (n) _ (fun _ => 0) _ _ _ ?_ ?_ infoT ?_); (first | rfl | simp [Act.eval, Act.put]); rfl; (try simp only [Act.put, List.setIfInBounds_toArray, List.set_cons_succ, List.set_cons_zero, World.size_alloc, Nat.add_assoc, Nat.reduceAdd]))
    | ((with_reducible refine wpList_loadT 38 _ (w.heap.size + 1) (n) (fun _ => 0) 38 _ ?_ ?_ Try.underlying38 infoT ?_); rfl; exact (heap_alloc2_new _ _ _); (try simp only [Act.put, List.setIfInBounds_toArray, List.set_cons_succ, List.set_cons_zero, World.size_alloc, Nat.add_assoc, Nat.reduceAdd]))
    | fail)
  refine (width n _ h5 _).mono ?_
  rw [hM.out]
  rintro e w1 ⟨rfl, hb1⟩
  have hT : w1.heap[w.heap.size + 1]? = some (.cells (tcells n (upto 0 val)) 38 (0, 0)) := by
    rw [upto_zero]; exact (hb1.block _ (by simp)).trans (heap_alloc2_new _ _ _)
  have hR : w1.heap[w.heap.size]? = some (.cells (tcells 0 (fun _ => 0)) 38 (0, 0)) := (hb1.block _ (by simp; omega)).trans (heap_alloc2_old _ _ _)
  have hB : Below w.heap.size w w1 := (((Below.refl _ _).alloc (Nat.le_refl _) _).alloc (by simp) _).trans (hb1.mono (by simp; omega))
  have hT := Lib.hid hT
  have hR := Lib.hid hR
  clear hb1
  go_wp2_with fail
  go_loopw [11] (fun i wr => ∃ k : Nat, k ≤ m ∧ i = .int .i64 k ∧ Hid (wr.heap[w.heap.size + 1]? = some (.cells (tcells n (upto k val)) 38 (0, 0))) ∧ Hid (wr.heap[w.heap.size]? = some (.cells (tcells 0 (fun _ => 0)) 38 (0, 0))) ∧ Below w.heap.size w wr) (fun i _ => m - (intOf i).toNat)
  case atStart => exact ⟨0, Nat.zero_le _, rfl, hT, hR, hB⟩
  case round =>
    clear hT hR hB
    obtain ⟨k, hk, rfl, hT, hR, hB⟩ := hrel
    by_cases hlt : k < m
    · go_wp2_with fail
      refine (hV.out k hlt wr hB).mono ?_
      rintro e w2 ⟨rfl, hb2⟩
      have hT2 : w2.heap[w.heap.size + 1]? = some (.cells (tcells n (upto k val)) 38 (0, 0)) := (hb2.block _ (lt_of_block hT.out)).trans hT.out
      have hR2 : w2.heap[w.heap.size]? = some (.cells (tcells 0 (fun _ => 0)) 38 (0, 0)) := (hb2.block _ (lt_of_block hR.out)).trans hR.out
      have hB2 : Below w.heap.size w w2 := hB.trans (hb2.mono hB.size)
      have hc : w2.cell? ⟨w.heap.size + 1, 1 + k, none⟩ = some (.int .u8 ((upto k val k : Nat) : Int)) := by
        rw [cell_of_row _ _ _ _ _ _ hT2]; exact tcells_succ _ _ _ (by omega)
      have hf : w2.frozen? ⟨w.heap.size + 1, 1 + k, none⟩ = false := frozen_of_row _ _ _ _ _ hT2
      have hT2 := Lib.hid hT2
      have hR2 := Lib.hid hR2
      clear hT hR hB hb2
      have hk32 : k < 32 := by omega
      go_wp2_with fail
      go_roundw
      case rel =>
        refine ⟨k + 1, by omega, by go_num, ?_, ?_, hB2.setCell (by simp) _⟩
        · have := heap_setCell_same w2 (w.heap.size + 1) (1 + k) _ _ (.int .u8 ((val k : Nat) : Int)) hT2.out
          rw [tcells_set n _ k _ hk32, ← upto_succ] at this
          exact this
        · exact (heap_setCell_other _ _ _ _ (by simp)).trans hR2.out
      case measure => simp [intOf]; omega
    · obtain rfl : k = m := by omega
      go_wp2_with (first
        | ((with_reducible refine wpList_loadT 38 _ (w.heap.size + 1) (n) (upto k val) 38 _ ?_ ?_ Try.underlying38 infoT ?_); rfl; exact (hT.out); (try simp only [Act.put, List.setIfInBounds_toArray, List.set_cons_succ, List.set_cons_zero, World.size_alloc, Nat.add_assoc, Nat.reduceAdd]))
        | ((with_reducible refine wpList_storeT 38 _ _ (w.heap.size) (n) (0) (upto k val) (fun _ => 0) 38 ?_ ?_ ?_ infoT ?_); rfl; rfl; exact (hR.out); (try simp only [Act.put, List.setIfInBounds_toArray, List.set_cons_succ, List.set_cons_zero, World.size_alloc, Nat.add_assoc, Nat.reduceAdd]))
        | fail)
      refine bodyPost_ret (results_cell_row rfl _ _ w.heap.size _ _ (0, 0) _ rfl (setRow_heap _ _ _ _ _ _ hR.out) Try.underlying38 rfl (by rw [tcells_size]; exact infoT)) rfl ?_
      exact ⟨rfl, below_setRow0 hB (Nat.le_refl _) _⟩

theorem infoB : (Try.prog.info? 5).map (fun i => (i.zero, i.size, i.bytes)) = some (some (.int .u8 0), 1, 1) := by kernel_rfl

theorem text (n m : Nat) (g : Nat → Nat) (h5 : n ≤ 5) (hm : 2 ^ n = m) (hg : ∀ s, s < m → g s ≤ 1) (w : World) :
    Calls Try.prog 30 #[.agg (tcells n g)] w fun e w' => e = .returned (.string ⟨(txt m g).toArray⟩) ∧ Below w.heap.size w w' := by
  have hG := Lib.hid hg
  have hM := Lib.hid hm
  have hm32 : m ≤ 32 := by rw [← hm]; exact pow_le32 n h5
  clear hg hm
  go_enter Try.func30, Try.ntmps30
  go_wp2_with (first
    | ((with_reducible refine wpList_loadT 38 _ (w.heap.size) (n) (g) 38 _ ?_ ?_ Try.underlying38 infoT ?_); rfl; exact (heap_alloc_new _ _); (try simp only [Act.put, List.setIfInBounds_toArray, List.set_cons_succ, List.set_cons_zero, World.size_alloc, Nat.add_assoc, Nat.reduceAdd]))
    | fail)
  refine (width n _ h5 _).mono ?_
  rw [hM.out]
  rintro e w1 ⟨rfl, hb1⟩
  have hT : w1.heap[w.heap.size]? = some (.cells (tcells n g) 38 (0, 0)) := (hb1.block _ (by simp)).trans (heap_alloc_new _ _)
  have hB : Below w.heap.size w w1 := ((Below.refl _ _).alloc (Nat.le_refl _) _).trans (hb1.mono (by simp))
  have hz : w.heap.size < w1.heap.size := by have := hb1.size; simp at this; omega
  have HT := Lib.hid hT
  clear hb1 hT
  go_wp2_with (first
    | ((with_reducible refine wpList_makeB 22 5 _ _ m ?_ ?_ Try.underlying22 infoB (by omega) ?_); rfl; rfl; (try simp only [Act.put, List.setIfInBounds_toArray, List.set_cons_succ, List.set_cons_zero, World.size_alloc, Nat.add_assoc, Nat.reduceAdd]))
    | fail)
  go_loopw [10] (fun i wr => ∃ k : Nat, k ≤ m ∧ i = .int .i64 k ∧ Hid (wr.heap[w1.heap.size]? = some (.cells (bcells m (upto k (fun s => 48 + g s))) 5 (0, 0))) ∧ Hid (wr.heap[w.heap.size]? = some (.cells (tcells n g) 38 (0, 0))) ∧ Below w.heap.size w wr) (fun i _ => m - (intOf i).toNat)
  case atStart => exact ⟨0, Nat.zero_le _, rfl, by rw [upto_zero]; exact heap_alloc_new _ _, (Below.heap_alloc _ _ _ hz).trans HT.out, hB.alloc (by omega) _⟩
  case round =>
    clear HT hB
    obtain ⟨k, hk, rfl, hS, hT, hB⟩ := hrel
    by_cases hlt : k < m
    · have hgk := hG.out k hlt
      have hc : wr.cell? ⟨w.heap.size, 1 + k, none⟩ = some (.int .u8 ((g k : Nat) : Int)) := by
        rw [cell_of_row _ _ _ _ _ _ hT.out]; exact tcells_succ _ _ _ (by omega)
      have hc2 : wr.cell? ⟨w1.heap.size, k, none⟩ = some (.int .u8 ((upto k (fun s => 48 + g s) k : Nat) : Int)) := by
        rw [cell_of_row _ _ _ _ _ _ hS.out]; exact bcells_get _ _ _ (by omega)
      have hf : wr.frozen? ⟨w1.heap.size, k, none⟩ = false := frozen_of_row _ _ _ _ _ hS.out
      have hk32 : k < 32 := by omega
      go_wp2_with fail
      go_roundw
      case rel =>
        refine ⟨k + 1, by omega, by go_num, ?_, ?_, hB.setCell (by simp; omega) _⟩
        · have := heap_setCell_same wr w1.heap.size k _ _ (.int .u8 ((48 + g k : Nat) : Int)) hS.out
          rw [bcells_set m _ k _ hlt, ← upto_succ (g := fun s => 48 + g s)] at this
          exact this
        · exact (heap_setCell_other _ _ _ _ (by simp; omega)).trans hT.out
      case measure => simp [intOf]; omega
    · obtain rfl : k = m := by omega
      go_wp2_with (first
        | ((with_reducible refine wpList_strB 22 9 5 _ w1.heap.size k k (upto k (fun s => 48 + g s)) ?_ Try.underlying22 Try.underlying5 Try.underlying9 hS.out ?_ ?_); rfl; (intro s hs; rw [upto_lt _ _ _ hs]; have := hG.out s hs; omega); (try simp only [Act.put, List.setIfInBounds_toArray, List.set_cons_succ, List.set_cons_zero, World.size_alloc, Nat.add_assoc, Nat.reduceAdd]))
        | fail)
      go_ret
      refine ⟨ret_str ?_, hB⟩
      rw [bl_upto]

end Go.Proofs.Ytnplaiolencgjaa
