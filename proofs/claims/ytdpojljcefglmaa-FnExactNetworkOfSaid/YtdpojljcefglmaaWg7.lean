/- Walks: the table of a formula, the reference (end). -/
import Derived.Test.YtdpojljcefglmaaWg6
import Derived.Test.YtdpojljcefglmaaWs3
namespace Go.Proofs.Ytdpojljcefglmaa
set_option linter.unusedVariables false
set_option linter.unusedSimpArgs false
open Go.RowKit

theorem fmOk_parts (l : List UInt8) (n : Int) (h : fmOk l n = true) : ∃ (k : Nat) (a : Fm), n = (k : Int) ∧ 1 ≤ k ∧ k ≤ 5 ∧ l.length ≤ 100 ∧ pf k 100 l = some (a, []) := by
  obtain ⟨h1, h5⟩ := fmOk_range l n h
  obtain ⟨k, rfl⟩ := Int.eq_ofNat_of_zero_le (show 0 ≤ n by omega)
  unfold fmOk at h
  rw [Int.toNat_natCast] at h
  simp only [Bool.and_eq_true, decide_eq_true_eq] at h
  obtain ⟨_, h3, h4⟩ := h
  split at h4
  · next a hh => exact ⟨k, a, rfl, by omega, by omega, h3, hh⟩
  · cases h4
theorem tofL_of (l : List UInt8) (n : Nat) (a : Fm) (h : pf n 100 l = some (a, [])) : tofL l n = txt (2 ^ n) (ev a) := by unfold tofL fmOf; rw [h]

theorem l2Value0 (e : ByteArray) (n : Nat) (hn : n ≤ 5) (h100 : e.size ≤ 100) (s : Nat) (hs : s ≤ 65536) (a : Fm) (w : World) (h : pf n 100 e.data.toList = some (a, [])) :
    Calls Try.prog 33 #[.string e, .int .i64 0, .int .i64 (s : Int)] w fun e' w' => e' = .returned (.tuple #[.int .i64 ((ev a s : Nat) : Int), .int .i64 (e.size : Int)]) ∧ w = w' :=
  l2ValueS e n hn h100 s hs 100 0 a [] w (by rw [List.drop_zero]; exact h)

theorem tableOfS (e : ByteArray) (n : Int) (w : World) (he : e.size ≤ maxLen) :
    Calls Try.prog 15 #[.string e, .int .i64 n] w fun e' w' => e' = .returned (.tuple #[.string (strI (fmOk e.data.toList n) (tofL e.data.toList n.toNat)), .bool (fmOk e.data.toList n)]) ∧ Below w.heap.size w w' := by
  cases hok : fmOk e.data.toList n
  · have H := Lib.hid hok
    go_enter Try.func15, Try.ntmps15
    go_wp2_with (first | ((with_reducible refine wpList_empty 43 3 (.int .i64 0) 8 Try.underlying43 infoI ?_); intro w1 hown1 hg1 hz1; (try simp only [Act.put, List.setIfInBounds_toArray, List.set_cons_succ, List.set_cons_zero, World.size_alloc, Nat.add_assoc, Nat.reduceAdd])) | (go_at_call 13; refine (formulaValidS _ _ _ he).mono ?_; rw [H.out]; rintro e w' ⟨rfl, rfl⟩))
    go_ret2
    exact ⟨by rfl, (Below.refl _ _).grown hg1 (Nat.le_refl _) (fun k hk => by cases hk)⟩
  · obtain ⟨n, a, rfl, h1, h5, h100, hpf⟩ := fmOk_parts _ _ hok
    have H := Lib.hid hok
    have HTO := Lib.hid (tofL_of _ _ _ hpf)
    have HPF := Lib.hid hpf
    have HLE := Lib.hid (fun s => ev_le n s a (pf_wf n 100 _ _ _ hpf))
    have H100 := Lib.hid (show e.size ≤ 100 from h100)
    have hp := wrap_pow n h5
    obtain ⟨m, hm⟩ : ∃ m, m = 2 ^ n := ⟨_, rfl⟩
    have hm32 := pow_le32 n h5
    rw [← hm] at hp hm32
    have HM := Lib.hid hm
    clear hok h100 hpf hm
    go_enter Try.func15, Try.ntmps15
    go_wp2_with (first | ((with_reducible refine wpList_empty 43 3 (.int .i64 0) 8 Try.underlying43 infoI ?_); intro w1 hown1 hg1 hz1; (try simp only [Act.put, List.setIfInBounds_toArray, List.set_cons_succ, List.set_cons_zero, World.size_alloc, Nat.add_assoc, Nat.reduceAdd])) | (go_at_call 13; refine (formulaValidS _ _ _ he).mono ?_; rw [H.out]; rintro e w' ⟨rfl, rfl⟩))
    go_loopw [6, 7] (fun v j wr => ∃ k : Nat, k ≤ m ∧ j = .int .i64 k ∧ wr.ownsRow w.heap.size 3 1 v k (intsV (ev a) k) ∧ Below w.heap.size w wr) (fun _ j _ => m - (intOf j).toNat)
    case atStart => exact ⟨0, Nat.zero_le _, rfl, hown1, (Below.refl _ _).grown hg1 (Nat.le_refl _) (fun k hk => by cases hk)⟩
    case round =>
      clear hown1 hg1 hz1
      obtain ⟨k, hk, rfl, hown, hB⟩ := hrel
      by_cases hlt : k < m
      · go_wp2_with (first
          | (go_at_call 33; (with_reducible refine (l2Value0 e n h5 H100.out k (by omega) a _ HPF.out).mono ?_); rintro e w' ⟨rfl, rfl⟩)
          | ((with_reducible refine wpList_push 43 3 _ _ (w.heap.size) (k) 8 (u6) (.int .i64 ((ev a k : Nat) : Int)) (.int .i64 0) (_) Try.underlying43 infoI rfl rfl rfl ?_ ?_ ?_ (hown) (hB.size) (by omega) (by decide) ?_); rfl; rfl; rfl; intro v2 w2 hown2 hg2 hat2 hbel2; (try simp only [Act.put, List.setIfInBounds_toArray, List.set_cons_succ, List.set_cons_zero, World.size_alloc, Nat.add_assoc, Nat.reduceAdd]))
          | fail)
        go_roundw
        case rel => exact ⟨k + 1, by omega, by go_num, by rw [intsV_succ]; exact hown2, below_grown hB hbel2 (Nat.le_refl _)⟩
        case measure => simp [intOf]; omega
      · obtain rfl : k = m := by omega
        go_wp2_with (first | (go_at_call 34; (with_reducible refine (l1TextS ((List.range (k)).map (ev a)) _ _ (range01 _ _ (fun s _ => HLE.out s)) (by simp; omega) (Row.of_own hown)).mono ?_); rintro e w3 ⟨rfl, hb3⟩) | fail)
        go_ret2
        refine ⟨?_, hB.trans (hb3.mono hB.size)⟩
        rw [strI_true, Int.toNat_natCast, digs_txt, HTO.out, ← HM.out]
        rfl

end Go.Proofs.Ytdpojljcefglmaa
