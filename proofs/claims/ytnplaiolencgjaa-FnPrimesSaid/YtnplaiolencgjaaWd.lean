/- Walks: the reference's source of numbers. -/
import Derived.Test.YtnplaiolencgjaaWq
import Derived.Test.YtnplaiolencgjaaWo2
import Derived.Test.YtnplaiolencgjaaWs2
import Derived.Deep.QuietTactic
import Derived.BigQuiet
namespace Go.Proofs.Ytnplaiolencgjaa
set_option linter.unusedVariables false
set_option linter.unusedSimpArgs false
open Go.RowKit

/-- A list of bytes as it is handed in: its cells may lie anywhere. -/
def ArgB (w : World) (A : Option Addr) (n c : Nat) : Prop :=
  n ≤ c ∧ c ≤ maxLen ∧ (n ≠ 0 → ∃ ad : Addr, A = some ad ∧ ad.block < w.heap.size ∧ ∀ k, k < n → ∃ z : Nat, z < 256 ∧ w.cell? (ad.add k) = some (.int .u8 (z : Int)))
theorem addB_block (x : Addr) (k : Nat) : (x.add k).block = x.block := by unfold Addr.add; split <;> rfl
theorem argB_of (W : World) (x : Addr) (l c : Nat) (zs : List Int) (hl : l ≤ c) (hm : c ≤ maxLen) (hz : zs.length = c) (hcell : ∀ i, i < zs.length → W.cell? (x.add i) = some (.int .u8 (zs.getD i 0))) (hwz : ∀ z ∈ zs, (Lit.int .u8 z).wf = true) :
    ArgB W (some x) l c := by
  have key : ∀ k, k < l → ∃ z : Nat, z < 256 ∧ W.cell? (x.add k) = some (.int .u8 (z : Int)) := by
    intro k hk
    have hk' : k < zs.length := by omega
    have h1 := hwz _ (List.getElem_mem hk')
    have h2 : 0 ≤ zs[k] ∧ zs[k] < 256 := by simp [Lit.wf, IntKind.min, IntKind.max, IntKind.bits, IntKind.signed] at h1; omega
    refine ⟨zs[k].toNat, by omega, ?_⟩
    rw [hcell k hk', List.getD_eq_getElem?_getD, List.getElem?_eq_getElem hk', Int.toNat_of_nonneg h2.1]
    rfl
  refine ⟨hl, hm, fun hne => ⟨x, rfl, ?_, key⟩⟩
  obtain ⟨z, _, hz0⟩ := key 0 (by omega)
  have := World.block_lt_of_cell? _ _ hz0
  rwa [addB_block] at this

/-- The source: its block, the bytes, at most P numbers were taken. -/
def Rd (g : Nat) (A : Option Addr) (n c P : Nat) (w : World) : Prop :=
  n ≤ 2000 ∧ n ≤ c ∧ c ≤ maxLen ∧ (n ≠ 0 → ∃ ad : Addr, A = some ad ∧ ad.block < g ∧ ∀ k, k < n → ∃ z : Nat, z < 256 ∧ w.cell? (ad.add k) = some (.int .u8 (z : Int))) ∧
  ∃ p, p ≤ P ∧ w.heap[g]? = some (.cells #[.slice A n c, .int .i64 (p : Int)] 53 (0, 0))
theorem Rd.lt {g : Nat} {A : Option Addr} {n c P : Nat} {w : World} (h : Rd g A n c P w) : g < w.heap.size := by
  obtain ⟨_, _, _, _, p, _, hg⟩ := h
  rcases Nat.lt_or_ge g w.heap.size with h | h
  · exact h
  · rw [Array.getElem?_eq_none h] at hg; cases hg
theorem Rd.grown {g : Nat} {A : Option Addr} {n c P : Nat} {w w' : World} {row : Option Nat} (h : Rd g A n c P w) (hg : w.grownBy w' row) (hr : ∀ k, row = some k → g < k) : Rd g A n c P w' := by
  have hl := h.lt
  obtain ⟨h1, h2, h3, h4, p, h5, h6⟩ := h
  refine ⟨h1, h2, h3, fun hne => ?_, p, h5, (hg.block g hl (fun e => by have := hr g e.symm; omega)).trans h6⟩
  obtain ⟨ad, hA, hb, hc⟩ := h4 hne
  refine ⟨ad, hA, hb, fun k hk => ?_⟩
  obtain ⟨z, hz, hcell⟩ := hc k hk
  exact ⟨z, hz, hg.cell hcell (fun e => by rw [addB_block] at e; have := hr _ e.symm; omega)⟩
theorem Rd.below {g : Nat} {A : Option Addr} {n c P : Nat} {w w' : World} (h : Rd g A n c P w) (hb : Below w.heap.size w w') : Rd g A n c P w' :=
  h.grown (row := none) ⟨hb.os, hb.tape, hb.output, hb.size, fun k hk _ => hb.block k hk⟩ (fun k e => by cases e)
theorem Rd.mono {g : Nat} {A : Option Addr} {n c P P' : Nat} {w : World} (h : Rd g A n c P w) (hP : P ≤ P') : Rd g A n c P' w := by
  obtain ⟨h1, h2, h3, h4, p, h5, h6⟩ := h
  exact ⟨h1, h2, h3, h4, p, Nat.le_trans h5 hP, h6⟩

theorem grown_refl (w : World) (g : Nat) : w.grownBy w (some g) := ⟨rfl, rfl, rfl, Nat.le_refl _, fun _ _ _ => rfl⟩
theorem grown_trans {w w1 w2 : World} {g : Nat} (h1 : w.grownBy w1 (some g)) (h2 : w1.grownBy w2 (some g)) : w.grownBy w2 (some g) :=
  ⟨h2.os.trans h1.os, h2.tape.trans h1.tape, h2.output.trans h1.output, Nat.le_trans h1.size h2.size, fun k hk hne => (h2.block k (Nat.lt_of_lt_of_le hk h1.size) hne).trans (h1.block k hk hne)⟩
theorem grown_below {w w1 w2 : World} {g B : Nat} (h1 : w.grownBy w1 (some g)) (h2 : Below B w1 w2) (hB : w.heap.size ≤ B) : w.grownBy w2 (some g) :=
  ⟨h2.os.trans h1.os, h2.tape.trans h1.tape, h2.output.trans h1.output, Nat.le_trans h1.size h2.size, fun k hk hne => (h2.block k (Nat.lt_of_lt_of_le hk hB)).trans (h1.block k hk hne)⟩
theorem below_of_grown {w w1 w2 : World} {g B : Nat} (h1 : Below B w w1) (h2 : w1.grownBy w2 (some g)) (hB : B ≤ w1.heap.size) (hg : B ≤ g) : Below B w w2 := h1.grown h2 hB (fun k e => by cases e; exact hg)

/-- What taking a number hands back. -/
def PickPost (m : Int) (g : Nat) (A : Option Addr) (n c P : Nat) (w : World) (e : Ending) (w' : World) : Prop :=
  ∃ r : Nat, e = .returned (.int .i64 (r : Int)) ∧ (1 ≤ m → (r : Int) < m) ∧ (m < 1 → r = 0) ∧ w.grownBy w' (some g) ∧ Rd g A n c (P + 1) w'

theorem l14OpenS (A : Option Addr) (n c : Nat) (w : World) (h : ArgB w A n c) :
    Calls Try.prog 16 #[.slice A n c] w fun e w' => (e = .returned (.pointer (some ⟨w.heap.size, 0, none⟩))) ∧ (∃ n' c', Rd w.heap.size A n' c' 0 w') ∧ Below w.heap.size w w' := by
  obtain ⟨h1, h2, h3⟩ := h
  have H3 := Lib.hid h3
  clear h3
  by_cases hb : 2000 < n
  · go_enter Try.func16, Try.ntmps16
    go_wp2_with fail
    go_ret
    refine ⟨rfl, ⟨2000, c, Nat.le_refl _, by omega, h2, fun _ => ?_, 0, Nat.le_refl _, heap_alloc_new _ _⟩, (Below.refl _ _).alloc (Nat.le_refl _) _⟩
    obtain ⟨ad, hA, hlt, hk⟩ := H3.out (by omega)
    refine ⟨ad, hA, hlt, fun k hk' => ?_⟩
    obtain ⟨z, hz, hc⟩ := hk k (by omega)
    exact ⟨z, hz, (((Below.refl _ _).alloc (Nat.le_refl _) _).cell (p := ad.add k) (by rw [addB_block]; exact hlt)).trans hc⟩
  · go_enter Try.func16, Try.ntmps16
    go_wp2_with fail
    go_ret
    refine ⟨rfl, ⟨n, c, by omega, h1, h2, fun hne => ?_, 0, Nat.le_refl _, heap_alloc_new _ _⟩, (Below.refl _ _).alloc (Nat.le_refl _) _⟩
    obtain ⟨ad, hA, hlt, hk⟩ := H3.out hne
    refine ⟨ad, hA, hlt, fun k hk' => ?_⟩
    obtain ⟨z, hz, hc⟩ := hk k hk'
    exact ⟨z, hz, (((Below.refl _ _).alloc (Nat.le_refl _) _).cell (p := ad.add k) (by rw [addB_block]; exact hlt)).trans hc⟩

theorem pickS (g : Nat) (A : Option Addr) (n c P : Nat) (m : Int) (w : World) (h : Rd g A n c P w) (hP : P ≤ 1000000) (hm : m ≤ 1000000) :
    Calls Try.prog 48 #[.pointer (some ⟨g, 0, none⟩), .int .i64 m] w (PickPost m g A n c P w) := by
  have hR := Lib.hid h
  obtain ⟨h1, h2, h3, h4, p, h5, h6⟩ := h
  have c0 : w.cell? ⟨g, 0, none⟩ = some (.slice A n c) := by rw [cell_of_row _ _ _ _ _ _ h6]; rfl
  have c1 : w.cell? ⟨g, 1, none⟩ = some (.int .i64 (p : Int)) := by rw [cell_of_row _ _ _ _ _ _ h6]; rfl
  have f1 : w.frozen? ⟨g, 1, none⟩ = false := frozen_of_row _ _ _ _ _ h6
  have k6 : (w.setCell ⟨g, 1, none⟩ (.int .i64 ((p : Int) + 1))).heap[g]? = some (.cells #[.slice A n c, .int .i64 ((p : Int) + 1)] 53 (0, 0)) := by
    rw [heap_setCell_same w g 1 _ _ _ h6]; rfl
  have kG : w.grownBy (w.setCell ⟨g, 1, none⟩ (.int .i64 ((p : Int) + 1))) (some g) :=
    ⟨rfl, rfl, rfl, by simp, fun k hk hne => Below.heap_setCell w _ _ k (fun e => hne (by rw [e]))⟩
  have kD : n ≠ 0 → ∃ ad : Addr, A = some ad ∧ ad.block < g ∧ ∀ k, k < n → ∃ z : Nat, z < 256 ∧ (w.setCell ⟨g, 1, none⟩ (.int .i64 ((p : Int) + 1))).cell? (ad.add k) = some (.int .u8 (z : Int)) := by
    intro hne
    obtain ⟨ad, hA, hb, hc⟩ := h4 hne
    refine ⟨ad, hA, hb, fun k hk => ?_⟩
    obtain ⟨z, hz, hcell⟩ := hc k hk
    exact ⟨z, hz, kG.cell hcell (fun e => by rw [addB_block] at e; injection e with e; omega)⟩
  have d0 : (w.setCell ⟨g, 1, none⟩ (.int .i64 ((p : Int) + 1))).cell? ⟨g, 0, none⟩ = some (.slice A n c) := by rw [cell_of_row _ _ _ _ _ _ k6]; rfl
  have d1 : (w.setCell ⟨g, 1, none⟩ (.int .i64 ((p : Int) + 1))).cell? ⟨g, 1, none⟩ = some (.int .i64 ((p : Int) + 1)) := by rw [cell_of_row _ _ _ _ _ _ k6]; rfl
  have HR2 : Hid (∀ k, Rd g A n c (P + 1) ((w.setCell ⟨g, 1, none⟩ (.int .i64 ((p : Int) + 1))).drewN k)) := fun k => ⟨h1, h2, h3, kD, p + 1, by omega, k6⟩
  have HG2 : Hid (∀ k, w.grownBy ((w.setCell ⟨g, 1, none⟩ (.int .i64 ((p : Int) + 1))).drewN k) (some g)) := fun k => ⟨kG.os, kG.tape, kG.output, kG.size, kG.block⟩
  have HD := Lib.hid kD
  clear kD kG k6 h6 h4
  unfold maxLen at h3
  by_cases hm1 : m < 1
  · go_enter Try.func48, Try.ntmps48
    go_wp2_with fail
    go_ret
    exact ⟨0, rfl, fun h => absurd h (by omega), fun _ => rfl, HG2.out 0, HR2.out 0⟩
  by_cases hn0 : n = 0
  · subst hn0
    go_enter Try.func48, Try.ntmps48
    go_wp2_with fail
    go_ret
    exact ⟨0, rfl, fun h => by omega, fun _ => rfl, HG2.out 0, HR2.out 0⟩
  obtain ⟨m, rfl⟩ := Int.eq_ofNat_of_zero_le (show 0 ≤ m by omega)
  obtain ⟨ad, rfl, hbl, hcells⟩ := HD.out hn0
  have hm0 : 0 < m := by omega
  clear HD
  have hn1 : ((n : Int) == 0) = false := by simp; omega
  have hn2 : (n == 0) = false := by simp; omega
  by_cases hpn : p < n
  · obtain ⟨z, hz, hcell⟩ := hcells p hpn
    have hzm := Nat.mod_lt z hm0
    clear hcells
    go_enter Try.func48, Try.ntmps48
    go_wp2_with fail
    go_ret
    exact ⟨z % m, rfl, fun _ => by omega, fun h => absurd h (by omega), HG2.out 0, HR2.out 0⟩
  · obtain ⟨a1, ha1, e1⟩ : ∃ a : Nat, a < n ∧ (p : Int).tmod (n : Int) = (a : Int) := ⟨p % n, Nat.mod_lt p (by omega), by rw [Int.tmod_eq_emod_of_nonneg (by omega)]; omega⟩
    obtain ⟨a2, ha2, e2⟩ : ∃ a : Nat, a < n ∧ ((p : Int) * 7 + 3).tmod (n : Int) = (a : Int) := ⟨(p * 7 + 3) % n, Nat.mod_lt _ (by omega), by rw [Int.tmod_eq_emod_of_nonneg (by omega), Int.natCast_emod, Int.natCast_add, Int.natCast_mul]; rfl⟩
    obtain ⟨a3, ha3, e3⟩ : ∃ a : Nat, a ≤ p ∧ (p : Int).tdiv (n : Int) = (a : Int) := ⟨p / n, Nat.div_le_self _ _, by rw [Int.tdiv_eq_ediv_of_nonneg (by omega)]; omega⟩
    obtain ⟨z1, hz1, hcell1⟩ := hcells _ ha1
    obtain ⟨z2, hz2, hcell2⟩ := hcells _ ha2
    obtain ⟨X, hX, eX⟩ : ∃ X : Nat, X ≤ 1000000000 ∧ (z1 : Int) * 131 + (z2 : Int) * 1117 + (p : Int) * 29 + (a3 : Int) * 53 = (X : Int) := ⟨z1 * 131 + z2 * 1117 + p * 29 + a3 * 53, by omega, by omega⟩
    have w1 : IntKind.i64.wrap ((p : Int) * 7) = (p : Int) * 7 := IntWalk.i64_in _ (by omega)
    have w2 : IntKind.i64.wrap ((p : Int) * 7 + 3) = (p : Int) * 7 + 3 := IntWalk.i64_in _ (by omega)
    have w3 : IntKind.i64.wrap ((z1 : Int) * 131) = (z1 : Int) * 131 := IntWalk.i64_in _ (by omega)
    have w4 : IntKind.i64.wrap ((z2 : Int) * 1117) = (z2 : Int) * 1117 := IntWalk.i64_in _ (by omega)
    have w5 : IntKind.i64.wrap ((z1 : Int) * 131 + (z2 : Int) * 1117) = (z1 : Int) * 131 + (z2 : Int) * 1117 := IntWalk.i64_in _ (by omega)
    have w6 : IntKind.i64.wrap ((p : Int) * 29) = (p : Int) * 29 := IntWalk.i64_in _ (by omega)
    have w7 : IntKind.i64.wrap ((z1 : Int) * 131 + (z2 : Int) * 1117 + (p : Int) * 29) = (z1 : Int) * 131 + (z2 : Int) * 1117 + (p : Int) * 29 := IntWalk.i64_in _ (by omega)
    have w8 : IntKind.i64.wrap ((a3 : Int) * 53) = (a3 : Int) * 53 := IntWalk.i64_in _ (by omega)
    have w9 : IntKind.i64.wrap ((z1 : Int) * 131 + (z2 : Int) * 1117 + (p : Int) * 29 + (a3 : Int) * 53) = (X : Int) := by rw [eX]; exact IntWalk.i64_in _ (by omega)
    have hZ := Nat.mod_lt (X ^^^ X / 64) hm0
    have eZ : bits .xor .i64 (X : Int) ((X : Int) / 64) = ((X ^^^ X / 64 : Nat) : Int) := by rw [← xorN X (X / 64) (by omega) (by omega)]; rfl
    have bZ : X ^^^ X / 64 < 2 ^ 31 := Nat.xor_lt_two_pow (by omega) (by omega)
    generalize X ^^^ X / 64 = Z at *
    clear hcells eX
    go_enter Try.func48, Try.ntmps48
    go_wp2_with fail
    go_quiet (fail)
    clear e1 e2 e3 w1 w2 w3 w4 w5 w6 w7 w8 w9
    go_wp2_with fail
    go_ret
    exact ⟨Z % m, rfl, fun _ => by omega, fun h => absurd h (by omega), HG2.out nq, HR2.out nq⟩

end Go.Proofs.Ytnplaiolencgjaa
