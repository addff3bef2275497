/- Walks: the table of a formula, the program. -/
import Derived.Test.YtdpojljcefglmaaWg4
import Derived.Test.YtdpojljcefglmaaWt
namespace Go.Proofs.Ytdpojljcefglmaa
set_option linter.unusedVariables false
set_option linter.unusedSimpArgs false
open Go.RowKit

/-- The formula of a text. -/
def fmOf (l : List UInt8) (n : Nat) : Fm := match pf n 100 l with | some (a, _) => a | none => .con 48
def tofL (l : List UInt8) (n : Nat) : List UInt8 := txt (2 ^ n) (ev (fmOf l n))

theorem tableOf1 (n : Nat) (hn : n ≤ 5) (b s : Nat) (a : Fm) (w : World) (hs : s ≤ 65536) (ha : wfm n a) (hc : w.cell? ⟨b, 0, none⟩ = some (fmV a)) :
    Calls Try.prog 36 #[.int .i64 (s : Int), .pointer (some ⟨b, 0, none⟩)] w fun e w' => e = .returned (.int .u8 ((ev a s : Nat) : Int)) ∧ Below w.heap.size w w' := by
  have key := evalI n hn s hs a w ha
  obtain ⟨tx, vx, hsh⟩ := fmV_shape a
  rw [hsh] at hc key
  have KEY := Lib.hid key
  clear key hsh ha
  go_enter Try.func36, Try.ntmps36
  go_wp2_with fail
  refine KEY.out.mono ?_
  rintro e w1 ⟨rfl, hb1⟩
  go_wp2_with fail
  go_ret
  exact ⟨rfl, hb1⟩

theorem fmOk_range (l : List UInt8) (n : Int) (h : fmOk l n = true) : 1 ≤ n ∧ n ≤ 5 := by
  unfold fmOk at h
  simp only [Bool.and_eq_true, decide_eq_true_eq] at h
  exact h.1

theorem tableOfI (e : ByteArray) (n : Int) (w : World) (he : e.size ≤ maxLen) :
    Calls Try.prog 16 #[.string e, .int .i64 n] w fun e' w' => e' = .returned (.tuple #[.string (strI (fmOk e.data.toList n) (tofL e.data.toList n.toNat)), .bool (fmOk e.data.toList n)]) ∧ Below w.heap.size w w' := by
  go_enter Try.func16, Try.ntmps16
  go_wp2_with fail
  refine (parseI e n _ he).mono ?_
  rintro e2 w2 ⟨hb2, x, hsx, rfl, hx⟩
  have HX := Lib.hid hx
  clear hx
  cases hok : fmOk e.data.toList n
  · clear HX
    rcases hsx with rfl | ⟨tx, vx, rfl⟩
    all_goals
      go_wp2_with fail
      go_ret2
      exact ⟨by rw [hok]; rfl, hb2.alloc hb2.size _⟩
  · obtain ⟨a, hxa, hpf⟩ := HX.out hok
    obtain ⟨tx, vx, hsh⟩ := fmV_shape a
    have hr := fmOk_range _ _ hok
    obtain ⟨n, rfl⟩ := Int.eq_ofNat_of_zero_le (show 0 ≤ n by omega)
    have h5 : n ≤ 5 := by omega
    rw [Int.toNat_natCast] at hpf
    have HTO := Lib.hid (show tofL e.data.toList (n : Int).toNat = txt (2 ^ n) (ev a) by unfold tofL fmOf; rw [Int.toNat_natCast, hpf])
    have HWF := Lib.hid (pf_wf n 100 _ _ _ hpf)
    have HLE := Lib.hid (fun s => ev_le n s a HWF.out)
    have HSH := Lib.hid hsh
    rw [hxa, hsh]
    clear HX hxa hsx hsh hpf hr
    go_wp2_with fail
    refine (each n (2 ^ n) _ _ (ev a) h5 rfl _ Try.call36 ?_).mono ?_
    · intro s hs w1 hb1
      have h32 := pow_le32 n h5
      exact tableOf1 n h5 w2.heap.size s a w1 (by omega) HWF.out (by rw [hb1.cell (by simp), cell_of_row _ _ _ _ _ _ (heap_alloc_new _ _), HSH.out]; rfl)
    rintro e3 w3 ⟨rfl, hb3⟩
    go_wp2_with fail
    refine (text n (2 ^ n) _ h5 rfl (fun s hs => by rw [upto_lt _ _ _ hs]; exact HLE.out s) _).mono ?_
    rintro e4 w4 ⟨rfl, hb4⟩
    go_wp2_with fail
    go_ret2
    refine ⟨?_, ?_⟩
    · rw [hok, strI_true, HTO.out, txt_upto]; rfl
    · exact ((hb2.alloc hb2.size _).trans (hb3.mono (by have := hb2.size; simp; omega))).trans (hb4.mono (by have := hb2.size; have := hb3.size; simp at this; omega))

end Go.Proofs.Ytdpojljcefglmaa
