/- Walks: networks, the program: the tables in memory, a step. -/
import Derived.Test.YtnplaiolencgjaaDoorWz5
import Derived.Test.YtnplaiolencgjaaDoorWz4
import Derived.Test.YtnplaiolencgjaaDoorWz8
import Derived.Test.YtnplaiolencgjaaDoorWi3
import Derived.Test.YtnplaiolencgjaaDoorWt
import Derived.Deep.MidRow
namespace Go.Proofs.YtnplaiolencgjaaDoor
set_option linter.unusedVariables false
set_option linter.unusedSimpArgs false
open Go.RowKit

theorem netRow_get (ts : List (List UInt8)) (k : Nat) (t : List UInt8) (h : ts[k]? = some t) (j : Nat) (hj : j < 33) : (netRow ts)[k * 33 + j]? = (tcells (lgN t.length) (tv t)).toList[j]? := by
  have hcons : ∀ (t : List UInt8) r, netRow (t :: r) = (tcells (lgN t.length) (tv t)).toList ++ netRow r := fun t r => by unfold netRow; rw [List.flatMap_cons]
  have hl : ∀ t : List UInt8, (tcells (lgN t.length) (tv t)).toList.length = 33 := fun t => tcells_size _ _
  induction ts generalizing k with
  | nil => simp at h
  | cons u r ih =>
    rw [hcons]
    cases k with
    | zero =>
      simp at h; subst h
      rw [Nat.zero_mul, Nat.zero_add, List.getElem?_append_left (by rw [hl]; exact hj)]
    | succ k =>
      have hh : r[k]? = some t := by simpa using h
      rw [List.getElem?_append_right (by rw [hl]; omega), hl, show (k + 1) * 33 + j - 33 = k * 33 + j by omega]
      exact ih k hh

/-- The tables of a network. -/
def Tabs (w : World) (A : Option Addr) (ts : List (List UInt8)) : Prop :=
  ∀ (k : Nat) (t : List UInt8), ts[k]? = some t → ∃ g, A = some ⟨g, 0, none⟩ ∧ g < w.heap.size ∧ w.rangeAt g (k * 33) (tcells (lgN t.length) (tv t)).toList
theorem Tabs.keep {w w' : World} {A : Option Addr} {ts : List (List UInt8)} (h : Tabs w A ts) (hb : Below w.heap.size w w') : Tabs w' A ts := fun k t ht => by
  obtain ⟨g, hA, hg, hr⟩ := h k t ht
  exact ⟨g, hA, Nat.lt_of_lt_of_le hg hb.size, fun j v hv => (hb.cell (p := ⟨g, k * 33 + j, none⟩) hg).trans (hr j v hv)⟩
theorem net_tabs {w : World} {base : Nat} {v : Value} {ts : List (List UInt8)} (h : Net w base v ts) : ∃ A c, v = .slice A ts.length c ∧ ts.length ≤ c ∧ c ≤ maxLen ∧ Tabs w A ts := by
  rcases h.2 with ⟨rfl, h0⟩ | ⟨g, cap, cur, rfl, hb, hg, hn, hc, hs, ht⟩
  · have e : ts = [] := List.length_eq_zero_iff.1 h0
    subst e
    exact ⟨none, 0, rfl, Nat.le_refl _, Nat.zero_le _, fun k t ht => by simp at ht⟩
  · refine ⟨_, _, rfl, hn, hc, fun k t hk => ⟨g, rfl, lt_of_block hg, fun j v hv => ?_⟩⟩
    have hj : j < 33 := by
      have := (List.getElem?_eq_some_iff.1 hv).1
      have e : (tcells (lgN t.length) (tv t)).toList.length = 33 := tcells_size _ _
      omega
    have hkl := (List.getElem?_eq_some_iff.1 hk).1
    have hcell := World.ownsRow.cellAt h (k * 33 + j) (by omega)
    rw [hcell, netRow_get ts k t hk j hj]
    exact hv

/-- The library's one number is there. -/
def Ml (w : World) : Prop := ∃ m : Int, w.cell? ⟨0, 0, none⟩ = some (.int .i64 m)
theorem Ml.keep {w w' : World} (h : Ml w) (hb : Below w.heap.size w w') : Ml w' := by
  obtain ⟨m, hm⟩ := h
  exact ⟨m, (hb.cell (p := ⟨0, 0, none⟩) (World.block_lt_of_cell? _ _ hm)).trans hm⟩

/-- What readNetwork, stateOf and switchOf hand back. -/
def Read (w w' : World) (A : Option Addr) (c : Nat) (ts : List (List UInt8)) : Prop := ts.length ≤ c ∧ c ≤ 9223372036854775807 ∧ Hid (Net w' w.heap.size (.slice A ts.length c) ts) ∧ Hid (Tabs w' A ts) ∧ Below w.heap.size w w'

theorem readNetworkC (s : ByteArray) (w : World) (hs : s.size ≤ 1048576) (hm : Ml w) :
    Calls Tryd.prog 37 #[.string s] w fun e w' => ∃ A c, e = .returned (.tuple #[.slice A (wTexts (netL s)).length c, .bool (wOk (netL s))]) ∧ Read w w' A c (wTexts (netL s)) := by
  obtain ⟨m, hm⟩ := hm
  refine (readNetworkG s w hs (splitI s m w hs hm)).mono ?_
  rintro e w' ⟨v, rfl, hn, hB⟩
  have hnet := hn
  obtain ⟨A, c, rfl, k1, k2, ht⟩ := net_tabs hn
  exact ⟨A, c, rfl, k1, by unfold maxLen at k2; omega, hnet, ht, hB⟩

theorem statesI (A : Option Addr) (n c : Nat) (w : World) (hn : n ≤ 5) :
    Calls Tryd.prog 56 #[.slice A n c] w fun e w' => e = .returned (.int .i64 ((2 ^ n : Nat) : Int)) ∧ w = w' := by
  have hq : n = 0 ∨ n = 1 ∨ n = 2 ∨ n = 3 ∨ n = 4 ∨ n = 5 := by omega
  clear hn
  rcases hq with rfl | rfl | rfl | rfl | rfl | rfl <;>
  · go_enter Tryd.func56, Tryd.ntmps56
    go_wp2_with fail
    go_ret
    exact ⟨ret_int (by decide), rfl⟩

section
variable {ops : Array Oper} {rest : List Oper} {a : Act} {w : World} {Q : Exit → Act → World → Prop}
/-- A table is loaded out of a network. -/
theorem wpList_loadN {dst : Option Tmp} {ty0 : TypeId} {pos : String} {aft : Array Edge} (x : Operand) (g o n : Nat) (f : Nat → Nat)
    (hx : a.eval x = .pointer (some ⟨g, o, none⟩)) (hg : w.rangeAt g o (tcells n f).toList)
    (h : wpList Tryd.prog ops Q rest (a.put dst (.agg (tcells n f))) w) : wpList Tryd.prog ops Q (⟨dst, .load 47 x, ty0, pos, aft, none⟩ :: rest) a w :=
  wpList_load_mid rfl 47 x rfl g o hx (tcells n f).toList _ hg Tryd.underlying47 rfl (by rw [Array.length_toList, tcells_size]; exact infoT) h
end

theorem orShift (N u k : Nat) (hN : N < 2 ^ k) (hk : k < 5) (hu : u ≤ 1) : bits .or .i64 (N : Int) (wrap64 ((u : Int) * 2 ^ k)) = ((N ||| u <<< k : Nat) : Int) := by
  rw [shl_bit u k hu hk]
  have h32 := pow_le32 k (by omega)
  have : u <<< k < 64 := by
    rw [Nat.shiftLeft_eq]
    have : u * 2 ^ k ≤ 1 * 32 := Nat.mul_le_mul hu h32
    omega
  exact orN N (u <<< k) (by omega) (by omega)

theorem stepI (ts : List (List UInt8)) (A : Option Addr) (c s : Nat) (w : World) (hok : wOk ts = true) (hs : s < 2 ^ ts.length) (k1 : ts.length ≤ c) (k2 : c ≤ 9223372036854775807) (hT : Tabs w A ts) :
    Calls Tryd.prog 44 #[.slice A ts.length c, .int .i64 (s : Int)] w fun e w' => e = .returned (.int .i64 ((nextN ts s : Nat) : Int)) ∧ Below w.heap.size w w' := by
  have h5 := wOk_five hok
  have hp32 := pow_le32 _ h5
  have HNL := Lib.hid (fun k hk => nextK_lt hok s ts.length h5 (by omega) k hk)
  have HWL := Lib.hid (wv_le hok)
  have HE := Lib.hid (show nextN ts s = nextK ts s ts.length from rfl)
  have HT := Lib.hid hT
  have hs32 : s < 32 := by omega
  obtain ⟨n, hn⟩ : ∃ n, ts.length = n := ⟨_, rfl⟩
  rw [hn] at k1 h5 HNL HE ⊢
  have HN := Lib.hid hn
  clear hn hs hp32 hT hok
  go_enter Tryd.func44, Tryd.ntmps44
  go_wp2_with fail
  go_loopw [5, 10] (fun o j wr => ∃ k : Nat, k ≤ n ∧ j = .int .i64 k ∧ o = .int .i64 ((nextK ts s k : Nat) : Int) ∧ Below w.heap.size w wr) (fun _ j _ => n - (intOf j).toNat)
  case atStart => exact ⟨0, Nat.zero_le _, rfl, rfl, Below.refl _ _⟩
  case round =>
    obtain ⟨k, hk, rfl, rfl, hB⟩ := hrel
    by_cases hlt : k < n
    · obtain ⟨t, ht⟩ : ∃ t, ts[k]? = some t := ⟨_, List.getElem?_eq_getElem (by rw [HN.out]; exact hlt)⟩
      obtain ⟨g, rfl, hg, hr⟩ := HT.out.keep hB k t ht
      have HR := Lib.hid hr
      have HU := Lib.hid (show tv t s = wv ts k s from (wv_at ht s).symm)
      have hNL := HNL.out k hk
      have hW := HWL.out k s
      have hsucc := Lib.hid (show nextK ts s (k + 1) = nextK ts s k ||| (wv ts k s) <<< k from rfl)
      have HO := Lib.hid (orShift (nextK ts s k) (wv ts k s) k hNL (by omega) hW)
      generalize nextK ts s k = N at *
      generalize wv ts k s = u at *
      generalize lgN t.length = q at *
      have hcv := tcells_succ q (tv t) s hs32
      rw [HU.out] at hcv
      clear ht hr hNL
      go_wp2_with (first | ((with_reducible refine wpList_loadN _ g (k * 33) q (tv t) ?_ HR.out ?_); rfl; (try simp only [Act.put, List.setIfInBounds_toArray, List.set_cons_succ, List.set_cons_zero, World.size_alloc, Nat.add_assoc, Nat.reduceAdd])) | ((with_reducible refine wpList_alloc_row 47 _ zeroT ?_); (try simp only [Act.put, List.setIfInBounds_toArray, List.set_cons_succ, List.set_cons_zero, World.size_alloc, Nat.add_assoc, Nat.reduceAdd])) | ((with_reducible refine wpList_storeT_new 47 _ _ (q) _ (tv t) _ _ _ ?_ ?_ infoT ?_); (first | rfl | simp [Act.eval, Act.put]); rfl; (try simp only [Act.put, List.setIfInBounds_toArray, List.set_cons_succ, List.set_cons_zero, World.size_alloc, Nat.add_assoc, Nat.reduceAdd])) | fail)
      go_roundw
      case rel => exact ⟨k + 1, by omega, by go_num, by rw [hsucc.out, ← HO.out], hB.alloc hB.size _⟩
      case measure => simp [intOf]; omega
    · obtain rfl : k = n := by omega
      go_wp2_with fail
      go_ret
      exact ⟨ret_int (by rw [HE.out]), hB⟩

end Go.Proofs.YtnplaiolencgjaaDoor
