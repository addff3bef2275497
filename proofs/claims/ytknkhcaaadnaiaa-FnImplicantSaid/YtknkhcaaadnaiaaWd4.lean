/- Walks: the reference draws terms. -/
import Derived.Test.YtknkhcaaadnaiaaWd3
import Derived.Test.YtknkhcaaadnaiaaWp2
import Derived.Test.YtknkhcaaadnaiaaWb
namespace Go.Proofs.Ytknkhcaaadnaiaa
set_option linter.unusedVariables false
set_option linter.unusedSimpArgs false
open Go.RowKit

def TermPost (N : Nat) (g : Nat) (A : Option Addr) (n c P : Nat) (w : World) (e : Ending) (w' : World) : Prop :=
  ∃ x : ByteArray, x.size = N ∧ e = .returned (.string x) ∧ w.grownBy w' (some g) ∧ Rd g A n c P w'

theorem ne_block {b g : Nat} (k : Nat) (sp : Option Nat) (h : b ≠ g) : some (⟨b, k, sp⟩ : Addr).block ≠ some g := fun e => by injection e with e; exact h e

/-- An element of a list is taken. -/
def PickT (ts : List (List UInt8)) (L g : Nat) (A : Option Addr) (n c P : Nat) (B : Option Addr) (w : World) (e : Ending) (w' : World) : Prop :=
  ∃ (r : Nat) (t : List UInt8) (bb : Nat), e = .returned (.int .i64 (r : Int)) ∧ r < L ∧ B = some ⟨bb, 0, none⟩ ∧ w'.cell? ⟨bb, r, none⟩ = some (.string ⟨t.toArray⟩) ∧ t ∈ ts ∧ w.grownBy w' (some g) ∧ Rd g A n c (P + 1) w'
theorem pickT (ts : List (List UInt8)) (L base g : Nat) (A : Option Addr) (n c P : Nat) (B : Option Addr) (w : World) (h : Rd g A n c P w) (hP : P ≤ 900000) (hL : L = ts.length) (h0 : 0 < L) (hm : L ≤ 1000) (hbg : g < base) (ht : Tex w base B ts) :
    Calls Try.prog 26 #[.pointer (some ⟨g, 0, none⟩), .int .i64 (L : Int)] w.drew (PickT ts L g A n c P B w) := by
  refine (pickS g A n c P (L : Int) w.drew h (by omega) (by omega)).mono ?_
  rintro e w5 ⟨r, he, hr, _, hg5, hR5⟩
  have hrL : r < L := by have := hr (by omega); omega
  obtain ⟨t, hrt⟩ : ∃ t, ts[r]? = some t := ⟨_, List.getElem?_eq_getElem (by rw [← hL]; exact hrL)⟩
  obtain ⟨bb, hB, hbb, hcell⟩ := ht r t hrt
  exact ⟨r, t, bb, he, hrL, hB, hg5.cell (w := w.drew) hcell (ne_block _ _ (by omega)), List.mem_of_getElem? hrt, ⟨hg5.os, hg5.tape, hg5.output, hg5.size, hg5.block⟩, hR5⟩

theorem l2TermS (g : Nat) (A : Option Addr) (n c P N : Nat) (w : World) (h : Rd g A n c P w) (hP : P ≤ 700000) (hN : N ≤ 8) :
    Calls Try.prog 24 #[.pointer (some ⟨g, 0, none⟩), .int .i64 (N : Int)] w (TermPost N g A n c (P + N) w) := by
  go_enter Try.func24, Try.ntmps24
  go_wp2_with fail
  go_loopw [5, 6] (fun v j wr => ∃ (k : Nat) (x : ByteArray), k ≤ N ∧ j = .int .i64 k ∧ v = .string x ∧ Hid (x.size = k) ∧ w.grownBy wr (some g) ∧ Rd g A n c (P + k) wr) (fun _ j _ => N - (intOf j).toNat)
  case atStart => exact ⟨0, ⟨#[]⟩, Nat.zero_le _, rfl, rfl, rfl, grown_refl _ _, h⟩
  case round =>
    obtain ⟨k, x, hk, rfl, rfl, hx, hG, hR⟩ := hrel
    by_cases hlt : k < N
    · go_wp2_with fail
      refine (ofN g A n c (P + k) _ [⟨#[42]⟩, ⟨#[48]⟩, ⟨#[49]⟩, ⟨#[42]⟩] _ hR (by omega) (by decide) (by decide)).mono ?_
      rintro e w2 ⟨y, hy, rfl, hg2, hR2⟩
      have hy1 : y.size = 1 := by
        have : ∀ y ∈ [(⟨#[42]⟩ : ByteArray), ⟨#[48]⟩, ⟨#[49]⟩, ⟨#[42]⟩], y.size = 1 := by decide
        exact this y hy
      have HY := Lib.hid hy1
      have hx8 : x.size ≤ 8 := by rw [hx.out]; omega
      have hy8 : y.size ≤ 8 := by omega
      clear hy hy1
      go_wp2_with fail
      go_roundw
      case rel => exact ⟨k + 1, _, by omega, by go_num, rfl, by show _ = _; rw [ByteArray.size_append, hx.out, HY.out], grown_trans hG hg2, hR2⟩
      case measure => simp [intOf]; omega
    · obtain rfl : k = N := by omega
      go_wp2_with fail
      go_ret
      exact ⟨x, hx.out, rfl, hG, hR⟩

theorem l2BadS (f : ByteArray) (g : Nat) (A : Option Addr) (n c P : Nat) (w : World) (h : Rd g A n c P w) (hP : P ≤ 800000) (h32 : f.size ≤ 32) :
    Calls Try.prog 27 #[.pointer (some ⟨g, 0, none⟩), .string f] w (OfPostB 66 g A n c (P + 2) w) := by
  go_enter Try.func27, Try.ntmps27
  go_wp2_with fail
  refine (pickS g A n c P 20 _ h (by omega) (by omega)).mono ?_
  rintro e w1 ⟨r, rfl, hr, _, hg, hR⟩
  clear hr
  by_cases hq : r = 0
  · have q0 : ((r : Int) == 0) = true := by rw [hq]; rfl
    clear hq
    go_wp2_with fail
    refine (ofB 6 g A n c (P + 1) _ [⟨#[42]⟩, ⟨#[120]⟩, ⟨#[49, 49, 49, 49, 49, 49]⟩, ⟨#[45]⟩] _ hR (by omega) (by decide) (by decide) (by decide)).mono ?_
    rintro e w2 ⟨x, hx, rfl, hg2, hR2⟩
    go_wp2_with fail
    go_ret
    exact ⟨_, by rw [ByteArray.size_append]; omega, rfl, grown_trans hg hg2, hR2.mono (by omega)⟩
  · have q0 : ((r : Int) == 0) = false := by simp; omega
    clear hq
    go_wp2_with fail
    go_ret
    exact ⟨f, by omega, rfl, hg, hR.mono (by omega)⟩

set_option maxHeartbeats 1000000 in
theorem drawIsImplicantS (A : Option Addr) (n c : Nat) (w : World) (h : ArgB w A n c) :
    Calls Try.prog 5 #[.slice A n c] w (D2 w) := by
  go_enter Try.func5, Try.ntmps5
  go_wp2_with fail
  refine (l14OpenS A n c w h).mono ?_
  rintro e w1 ⟨rfl, ⟨n', c', hR⟩, hb1⟩
  go_wp2_with fail
  refine (l1OpenS _ A n' c' 0 _ hR (by omega)).mono ?_
  rintro e w2 ⟨f, hf, rfl, hg2, hR2⟩
  have hfm : f.size ≤ maxLen := by unfold maxLen; omega
  cases hb : isTab f.data.toList
  · have HI := Lib.hid (inpL_no _ hb)
    clear hb
    go_wp2_with (first | (go_at_call 23; refine (inputsOfS _ _ hfm).mono ?_; rw [HI.out]; rintro e w' ⟨rfl, rfl⟩))
    refine (l2TermS _ A n' c' _ 2 _ hR2 (by omega) (by omega)).mono ?_
    rintro e w3 ⟨t, ht, rfl, hg3, hR3⟩
    go_wp2_with fail
    go_ret2
    exact ⟨f, t, by omega, by omega, rfl, below_draw hb1 (grown_trans hg2 hg3) (Nat.le_refl _)⟩
  · obtain ⟨N, h1, h5, hn, hlg, hz, hv⟩ := rt_yes _ hb
    have HI := Lib.hid (show inpL f.data.toList = (N : Int) by rw [inpL_yes' _ hb, hlg])
    have hpl := primL_len f.data.toList
    have HPM := Lib.hid (primL_mem f.data.toList)
    have HLG := Lib.hid hlg
    clear hb hn hlg hz hv
    go_wp2_with (first | (go_at_call 23; refine (inputsOfS _ _ hfm).mono ?_; rw [HI.out]; rintro e w' ⟨rfl, rfl⟩))
    refine (primesOfS f _ hfm).mono ?_
    rintro e w3 ⟨⟨v, rfl, hres⟩, hb3⟩
    have hR3 := hR2.below hb3
    have G3 := grown_below hg2 hb3 hg2.size
    obtain ⟨B, cap, rfl, hlc, hcm, htex⟩ := res_texts hres
    have HT := Lib.hid htex
    have hR3lt : w.heap.size < w2.heap.size := hR2.lt
    obtain ⟨L, hL⟩ : ∃ L, L = (primL f.data.toList).length := ⟨_, rfl⟩
    rw [← hL] at hlc hpl ⊢
    have HL := Lib.hid hL
    unfold maxLen at hcm
    clear hL htex hres
    by_cases hL0 : L = 0
    · subst hL0
      go_wp2_with fail
      refine (l2TermS _ A n' c' _ N _ hR3 (by omega) (by omega)).mono ?_
      rintro e w4 ⟨t, ht, rfl, hg4, hR4⟩
      have ht8 : t.size ≤ 8 := by omega
      clear ht
      go_wp2_with fail
      refine (l2BadS t _ A n' c' _ _ hR4 (by omega) (by omega)).mono ?_
      rintro e w5 ⟨y, hy, rfl, hg5, hR5⟩
      go_wp2_with fail
      go_ret2
      exact ⟨f, y, by omega, by omega, rfl, below_draw hb1 (grown_trans G3 (grown_trans hg4 hg5)) (Nat.le_refl _)⟩
    · have hL1 : 0 < L := by omega
      go_wp2_with fail
      refine (pickS _ A n' c' _ 2 _ hR3 (by omega) (by omega)).mono ?_
      rintro e w4 ⟨q, rfl, _, _, hg4, hR4⟩
      have G4 := grown_trans G3 hg4
      have HT4 : Hid (Tex w4 w2.heap.size B (primL f.data.toList)) := fun k t ht => by
        obtain ⟨bb, h1, h2, h3⟩ := HT.out k t ht
        exact ⟨bb, h1, h2, hg4.cell h3 (ne_block _ _ (by omega))⟩
      by_cases hq : q = 0
      · have q0 : ((q : Int) == 0) = true := by rw [hq]; rfl
        clear hq
        go_wp2_with fail
        go_region_law (first
          | (go_simp; go_at_call 26; refine (pickT (primL f.data.toList) L w2.heap.size w.heap.size A n' c' (0 + 39 + 1 + 1) B w4 ?_ ?_ ?_ ?_ ?_ ?_ ?_).mono ?_; exact hR4; omega; exact HL.out; exact hL1; omega; exact hR3lt; exact HT4.out; rintro e w5 ⟨r, t, bb, rfl, hrL, rfl, hcell5, htm, hg5, hR5⟩; have r0 : (0 : Int) ≤ (r : Int) := Int.natCast_nonneg r; have r1 : (r : Int) < (L : Int) := Int.ofNat_lt.2 hrL))
        have G5 := grown_trans G4 hg5
        go_wp2_with fail
        go_ret2
        have hts : (⟨t.toArray⟩ : ByteArray).size ≤ 100 := by
          have h1 := (HPM.out t htm).1
          rw [HLG.out] at h1
          show t.toArray.size ≤ 100
          simp; omega
        exact ⟨f, _, by omega, hts, rfl, below_draw hb1 G5 (Nat.le_refl _)⟩
      · have q0 : ((q : Int) == 0) = false := by simp; omega
        clear hq
        go_wp2_with fail
        refine (l2TermS _ A n' c' _ N _ hR4 (by omega) (by omega)).mono ?_
        rintro e w5 ⟨t, ht, rfl, hg5, hR5⟩
        have ht8 : t.size ≤ 8 := by omega
        clear ht
        go_wp2_with fail
        refine (l2BadS t _ A n' c' _ _ hR5 (by omega) (by omega)).mono ?_
        rintro e w6 ⟨y, hy, rfl, hg6, hR6⟩
        go_wp2_with fail
        go_ret2
        exact ⟨f, y, by omega, by omega, rfl, below_draw hb1 (grown_trans G4 (grown_trans hg5 hg6)) (Nat.le_refl _)⟩

end Go.Proofs.Ytknkhcaaadnaiaa
