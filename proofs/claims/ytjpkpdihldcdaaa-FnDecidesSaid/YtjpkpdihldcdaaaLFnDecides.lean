/-
  'laws.FnDecides' returns true for every input, and each argument reads behind the call as it read before. No conditions.
-/
import Derived.Test.YtjpkpdihldcdaaaRows
import Derived.Test.YtjpkpdihldcdaaaWx
import Derived.WalkKit
import Derived.ProofKit
import Derived.OpenShut
import Derived.ShutString
import Derived.ChangeOld
import Derived.Below
import Derived.SliceStrings
namespace Go.Proofs.Ytjpkpdihldcdaaa
set_option linter.unusedVariables false
set_option linter.unusedSimpArgs false
namespace fnDecides
open Go.ChangeShapes Go.WideShapes Go.ChangeAt Go.RowKit
open Go.ChangeMaps (open_string shut_string)
open Go.RowKit
set_option linter.unusedVariables false

theorem no_facts (F : ByteArray) (i v : Int) (hF : F.size ≤ 100) (w0 : World) (hb : holdOk F.data.toList i v = false) :
    Hid (Co w0 36 #[.string F, .int .i64 i, .int .i64 v] (.int .i64 (-2))) ∧ Hid (Co w0 37 #[.string F, .int .i64 i, .int .i64 v] (.int .i64 (-2))) := by
  have f1 : F.size ≤ maxLen := by unfold maxLen; omega
  have e : decL F.data.toList i v = -2 := by unfold decL; rw [hb]; rfl
  exact ⟨(co w0 fun w => decidesAloneI F i v w f1).as (by rw [e]), (co w0 fun w => decidesAloneS F i v w f1).as (by rw [e])⟩

theorem hold_T (F : ByteArray) (i v : Int) (hb : holdOk F.data.toList i v = true) : ∃ (n k : Nat) (g : Nat → Nat), 1 ≤ n ∧ n ≤ 5 ∧ k < n ∧ i = (k : Int) ∧ (v = 0 ∨ v = 1) ∧ (∀ s, g s ≤ 1) ∧ F = T n g := by
  unfold holdOk valOk at hb
  simp only [Bool.and_eq_true, decide_eq_true_eq] at hb
  obtain ⟨h1, h2, h3⟩ := hb
  have h1' := h1
  unfold inOk at h1
  simp only [Bool.and_eq_true, decide_eq_true_eq] at h1
  obtain ⟨n, g, hn1, hn5, hg, rfl⟩ := tab_T F h1.1
  rw [lgN_T hn1 hn5] at h1
  exact ⟨n, i.toNat, g, hn1, hn5, by omega, by omega, by omega, hg, rfl⟩

theorem dec_turn (n k v : Nat) (g : Nat → Nat) (h5 : n ≤ 5) (hk : k < n) (hv : v ≤ 1) (hg : ∀ s, g s ≤ 1) :
    (if constB (fun s => 1 - g (holdN s k v)) (2 ^ n) then ((1 - g (holdN 0 k v) : Nat) : Int) else -1) = if constB (fun s => g (holdN s k v)) (2 ^ n) then ((1 - g (holdN 0 k v) : Nat) : Int) else -1 := by
  rw [const_not (g := fun s => g (holdN s k v)) (fun s => hg _) (2 ^ n) (Nat.two_pow_pos n)]
theorem dec_dual (n k v : Nat) (g : Nat → Nat) (h5 : n ≤ 5) (hk : k < n) (hv : v ≤ 1) (hg : ∀ s, g s ≤ 1) :
    (if constB (fun s => 1 - g (2 ^ n - 1 - holdN s k (1 - v))) (2 ^ n) then ((1 - g (2 ^ n - 1 - holdN 0 k (1 - v)) : Nat) : Int) else -1) = if constB (fun s => g (holdN s k v)) (2 ^ n) then ((1 - g (holdN 0 k v) : Nat) : Int) else -1 := by
  have hp := Nat.two_pow_pos n
  have e : ∀ s, s < 2 ^ n → g (2 ^ n - 1 - holdN s k (1 - v)) = g (holdN (2 ^ n - 1 - s) k v) := fun s hs => by
    rw [flip_hold h5 s k (1 - v) hs hk (by omega), show 1 - (1 - v) = v by omega]
  have e1 : constB (fun s => 1 - g (2 ^ n - 1 - holdN s k (1 - v))) (2 ^ n) = constB (fun s => g (holdN s k v)) (2 ^ n) := by
    rw [const_not (g := fun s => g (2 ^ n - 1 - holdN s k (1 - v))) (fun s => hg _) (2 ^ n) hp]
    exact const_flip (g := fun s => g (holdN s k v)) (2 ^ n) hp _ e
  rw [e1, e 0 hp]
  by_cases hc : constB (fun s => g (holdN s k v)) (2 ^ n) = true
  · rw [if_pos hc, if_pos hc, (constB_iff (2 ^ n) hp).1 hc (2 ^ n - 1 - 0) (by omega)]
  · rw [if_neg hc, if_neg hc]

theorem facts0 (n k : Nat) (g : Nat → Nat) (h1 : 1 ≤ n) (h5 : n ≤ 5) (hk : k < n) (hg : ∀ s, g s ≤ 1) (w0 : World) : ∃ (H Z O D G : ByteArray) (K K' : Int),
    Hid (Co w0 36 #[.string (T n g), .int .i64 (k : Int), .int .i64 0] (.int .i64 K)) ∧
    Hid (Co w0 37 #[.string (T n g), .int .i64 (k : Int), .int .i64 0] (.int .i64 K)) ∧
    Hid (Co w0 33 #[.string (T n g), .int .i64 (k : Int), .int .i64 0] (.tuple #[.string H, .bool true])) ∧
    Hid (Co w0 16 #[.string (T n g)] (.int .i64 (n : Int))) ∧
    Hid (Co w0 34 #[.int .i64 (n : Int), .int .i64 0] (.tuple #[.string Z, .bool true])) ∧
    Hid (Co w0 34 #[.int .i64 (n : Int), .int .i64 1] (.tuple #[.string O, .bool true])) ∧
    Hid (Co w0 38 #[.int .i64 (n : Int), .int .i64 0] (.tuple #[.string Z, .bool true])) ∧
    Hid (Co w0 28 #[.string (T n g)] (.tuple #[.string D, .bool true])) ∧
    Hid (Co w0 36 #[.string D, .int .i64 (k : Int), .int .i64 1] (.int .i64 K')) ∧
    Hid (Co w0 21 #[.string (T n g)] (.tuple #[.string G, .bool true])) ∧
    Hid (Co w0 36 #[.string G, .int .i64 (k : Int), .int .i64 0] (.int .i64 K')) ∧
    ((K = -1 ∧ K' = -1 ∧ H ≠ Z ∧ H ≠ O) ∨ (K = 0 ∧ K' = 1 ∧ H = Z ∧ H ≠ O) ∨ (K = 1 ∧ K' = 0 ∧ H = O ∧ H ≠ Z)) := by
  have hp := Nat.two_pow_pos n
  have hH : ∀ s, g (holdN s k 0) ≤ 1 := fun s => hg _
  have hd : ∀ s, 1 - g (2 ^ n - 1 - s) ≤ 1 := fun s => Nat.sub_le _ _
  have hn : ∀ s, 1 - g s ≤ 1 := fun s => Nat.sub_le _ _
  refine ⟨T n fun s => g (holdN s k 0), T n fun _ => 0, T n fun _ => 1, T n fun s => 1 - g (2 ^ n - 1 - s), T n fun s => 1 - g s, _, if constB (fun s => g (holdN s k 0)) (2 ^ n) then ((1 - g (holdN 0 k 0) : Nat) : Int) else -1,
    tDecI w0 h1 h5 hg k 0 hk (by omega), tDecS w0 h1 h5 hg k 0 hk (by omega), tHoldI w0 h1 h5 hg k 0 hk (by omega), tInputsI w0 h1 h5 hg, tConstI w0 h1 h5 0 (by omega), tConstI w0 h1 h5 1 (by omega), tConstS w0 h1 h5 0 (by omega), tDualI w0 h1 h5 hg,
    (tDecI w0 h1 h5 hd k 1 hk (by omega)).as (int_eq (dec_dual n k 0 g h5 hk (by omega) hg)), tNotI w0 h1 h5 hg, (tDecI w0 h1 h5 hn k 0 hk (by omega)).as (int_eq (dec_turn n k 0 g h5 hk (by omega) hg)), ?_⟩
  have hz := const_T (n := n) hH 0 (by omega)
  have ho := const_T (n := n) hH 1 (by omega)
  by_cases hc : constB (fun s => g (holdN s k 0)) (2 ^ n) = true
  · rw [if_pos hc, if_pos hc]
    rcases b01 (hg (holdN 0 k 0)) with e | e
    · rw [e]
      exact .inr (.inl ⟨rfl, rfl, hz.2 ⟨hc, e⟩, fun h => by have := (ho.1 h).2; simp only [e] at this; cases this⟩)
    · rw [e]
      exact .inr (.inr ⟨rfl, rfl, ho.2 ⟨hc, e⟩, fun h => by have := (hz.1 h).2; simp only [e] at this; cases this⟩)
  · rw [if_neg hc, if_neg hc]
    exact .inl ⟨rfl, rfl, fun h => hc (hz.1 h).1, fun h => hc (ho.1 h).1⟩

theorem facts1 (n k : Nat) (g : Nat → Nat) (h1 : 1 ≤ n) (h5 : n ≤ 5) (hk : k < n) (hg : ∀ s, g s ≤ 1) (w0 : World) : ∃ (H Z O D G : ByteArray) (K K' : Int),
    Hid (Co w0 36 #[.string (T n g), .int .i64 (k : Int), .int .i64 1] (.int .i64 K)) ∧
    Hid (Co w0 37 #[.string (T n g), .int .i64 (k : Int), .int .i64 1] (.int .i64 K)) ∧
    Hid (Co w0 33 #[.string (T n g), .int .i64 (k : Int), .int .i64 1] (.tuple #[.string H, .bool true])) ∧
    Hid (Co w0 16 #[.string (T n g)] (.int .i64 (n : Int))) ∧
    Hid (Co w0 34 #[.int .i64 (n : Int), .int .i64 0] (.tuple #[.string Z, .bool true])) ∧
    Hid (Co w0 34 #[.int .i64 (n : Int), .int .i64 1] (.tuple #[.string O, .bool true])) ∧
    Hid (Co w0 38 #[.int .i64 (n : Int), .int .i64 0] (.tuple #[.string Z, .bool true])) ∧
    Hid (Co w0 28 #[.string (T n g)] (.tuple #[.string D, .bool true])) ∧
    Hid (Co w0 36 #[.string D, .int .i64 (k : Int), .int .i64 0] (.int .i64 K')) ∧
    Hid (Co w0 21 #[.string (T n g)] (.tuple #[.string G, .bool true])) ∧
    Hid (Co w0 36 #[.string G, .int .i64 (k : Int), .int .i64 1] (.int .i64 K')) ∧
    ((K = -1 ∧ K' = -1 ∧ H ≠ Z ∧ H ≠ O) ∨ (K = 0 ∧ K' = 1 ∧ H = Z ∧ H ≠ O) ∨ (K = 1 ∧ K' = 0 ∧ H = O ∧ H ≠ Z)) := by
  have hp := Nat.two_pow_pos n
  have hH : ∀ s, g (holdN s k 1) ≤ 1 := fun s => hg _
  have hd : ∀ s, 1 - g (2 ^ n - 1 - s) ≤ 1 := fun s => Nat.sub_le _ _
  have hn : ∀ s, 1 - g s ≤ 1 := fun s => Nat.sub_le _ _
  refine ⟨T n fun s => g (holdN s k 1), T n fun _ => 0, T n fun _ => 1, T n fun s => 1 - g (2 ^ n - 1 - s), T n fun s => 1 - g s, _, if constB (fun s => g (holdN s k 1)) (2 ^ n) then ((1 - g (holdN 0 k 1) : Nat) : Int) else -1,
    tDecI w0 h1 h5 hg k 1 hk (by omega), tDecS w0 h1 h5 hg k 1 hk (by omega), tHoldI w0 h1 h5 hg k 1 hk (by omega), tInputsI w0 h1 h5 hg, tConstI w0 h1 h5 0 (by omega), tConstI w0 h1 h5 1 (by omega), tConstS w0 h1 h5 0 (by omega), tDualI w0 h1 h5 hg,
    (tDecI w0 h1 h5 hd k 0 hk (by omega)).as (int_eq (dec_dual n k 1 g h5 hk (by omega) hg)), tNotI w0 h1 h5 hg, (tDecI w0 h1 h5 hn k 1 hk (by omega)).as (int_eq (dec_turn n k 1 g h5 hk (by omega) hg)), ?_⟩
  have hz := const_T (n := n) hH 0 (by omega)
  have ho := const_T (n := n) hH 1 (by omega)
  by_cases hc : constB (fun s => g (holdN s k 1)) (2 ^ n) = true
  · rw [if_pos hc, if_pos hc]
    rcases b01 (hg (holdN 0 k 1)) with e | e
    · rw [e]
      exact .inr (.inl ⟨rfl, rfl, hz.2 ⟨hc, e⟩, fun h => by have := (ho.1 h).2; simp only [e] at this; cases this⟩)
    · rw [e]
      exact .inr (.inr ⟨rfl, rfl, ho.2 ⟨hc, e⟩, fun h => by have := (hz.1 h).2; simp only [e] at this; cases this⟩)
  · rw [if_neg hc, if_neg hc]
    exact .inl ⟨rfl, rfl, fun h => hc (hz.1 h).1, fun h => hc (ho.1 h).1⟩

set_option maxRecDepth 100000 in
set_option maxHeartbeats 1000000 in
theorem walk_FnDecides (A : Option Addr) (n c : Nat) (w : World) (h : ArgB w A n c) :
    Calls Try.prog 6 #[.slice A n c] w fun e w' => e = .returned (.bool true) ∧ Below w.heap.size w w' := by
  have hnm := Nat.le_trans h.1 h.2.1
  unfold maxLen at hnm
  by_cases hbig : 1048576 < n
  · go_enter Try.func6, Try.ntmps6
    go_wp2_with fail
    go_ret
    exact ⟨rfl, Below.refl _ _⟩
  go_enter Try.func6, Try.ntmps6
  go_wp2_with fail
  refine (drawDecidesAloneS A n c w h).mono ?_
  rintro e w1 ⟨F, i, v, hF, hi1, hi2, hv1, hv2, rfl, hB⟩
  clear h
  cases hb : holdOk F.data.toList i v
  · obtain ⟨c1, c2⟩ := no_facts F i v hF w hb
    clear hb
    go_wp2_with (first | (go_at_call 36; (with_reducible refine ((c1).out.at hB).mono ?_); rintro e w1 ⟨rfl, hB⟩) | (go_at_call 37; (with_reducible refine ((c2).out.at hB).mono ?_); rintro e w1 ⟨rfl, hB⟩) | fail)
    go_ret
    exact ⟨rfl, hB⟩
  · obtain ⟨N, k, g, h1, h5, hk, rfl, hv, hg, rfl⟩ := hold_T F i v hb
    clear hb hv1 hv2 hi1 hi2
    rcases hv with rfl | rfl
    · obtain ⟨H, Z, O, D, G, K, K', c1, c2, c3, c4, c5, c6, c7, c8, c9, c10, c11, hK⟩ := facts0 N k g h1 h5 hk hg w
      clear hg
      generalize T N g = F at *
      rcases hK with ⟨rfl, rfl, hz, ho⟩ | ⟨rfl, rfl, rfl, ho⟩ | ⟨rfl, rfl, rfl, hz⟩
      · have z1 := str_ne hz
        have z2 := str_ne ho
        clear hz ho
        go_wp2_with (first | (go_at_call 36; (with_reducible refine ((c1).out.at hB).mono ?_); rintro e w1 ⟨rfl, hB⟩) | (go_at_call 37; (with_reducible refine ((c2).out.at hB).mono ?_); rintro e w1 ⟨rfl, hB⟩) | (go_at_call 33; (with_reducible refine ((c3).out.at hB).mono ?_); rintro e w1 ⟨rfl, hB⟩) | (go_at_call 16; (with_reducible refine ((c4).out.at hB).mono ?_); rintro e w1 ⟨rfl, hB⟩) | (go_at_call 34; (with_reducible refine ((c5).out.at hB).mono ?_); rintro e w1 ⟨rfl, hB⟩) | (go_at_call 34; (with_reducible refine ((c6).out.at hB).mono ?_); rintro e w1 ⟨rfl, hB⟩) | (go_at_call 38; (with_reducible refine ((c7).out.at hB).mono ?_); rintro e w1 ⟨rfl, hB⟩) | (go_at_call 28; (with_reducible refine ((c8).out.at hB).mono ?_); rintro e w1 ⟨rfl, hB⟩) | (go_at_call 36; (with_reducible refine ((c9).out.at hB).mono ?_); rintro e w1 ⟨rfl, hB⟩) | (go_at_call 21; (with_reducible refine ((c10).out.at hB).mono ?_); rintro e w1 ⟨rfl, hB⟩) | (go_at_call 36; (with_reducible refine ((c11).out.at hB).mono ?_); rintro e w1 ⟨rfl, hB⟩) | fail)
        go_ret
        exact ⟨rfl, hB⟩
      · have z2 := str_ne ho
        clear ho
        go_wp2_with (first | (go_at_call 36; (with_reducible refine ((c1).out.at hB).mono ?_); rintro e w1 ⟨rfl, hB⟩) | (go_at_call 37; (with_reducible refine ((c2).out.at hB).mono ?_); rintro e w1 ⟨rfl, hB⟩) | (go_at_call 33; (with_reducible refine ((c3).out.at hB).mono ?_); rintro e w1 ⟨rfl, hB⟩) | (go_at_call 16; (with_reducible refine ((c4).out.at hB).mono ?_); rintro e w1 ⟨rfl, hB⟩) | (go_at_call 34; (with_reducible refine ((c5).out.at hB).mono ?_); rintro e w1 ⟨rfl, hB⟩) | (go_at_call 34; (with_reducible refine ((c6).out.at hB).mono ?_); rintro e w1 ⟨rfl, hB⟩) | (go_at_call 38; (with_reducible refine ((c7).out.at hB).mono ?_); rintro e w1 ⟨rfl, hB⟩) | (go_at_call 28; (with_reducible refine ((c8).out.at hB).mono ?_); rintro e w1 ⟨rfl, hB⟩) | (go_at_call 36; (with_reducible refine ((c9).out.at hB).mono ?_); rintro e w1 ⟨rfl, hB⟩) | (go_at_call 21; (with_reducible refine ((c10).out.at hB).mono ?_); rintro e w1 ⟨rfl, hB⟩) | (go_at_call 36; (with_reducible refine ((c11).out.at hB).mono ?_); rintro e w1 ⟨rfl, hB⟩) | fail)
        go_ret
        exact ⟨rfl, hB⟩
      · have z1 := str_ne hz
        clear hz
        go_wp2_with (first | (go_at_call 36; (with_reducible refine ((c1).out.at hB).mono ?_); rintro e w1 ⟨rfl, hB⟩) | (go_at_call 37; (with_reducible refine ((c2).out.at hB).mono ?_); rintro e w1 ⟨rfl, hB⟩) | (go_at_call 33; (with_reducible refine ((c3).out.at hB).mono ?_); rintro e w1 ⟨rfl, hB⟩) | (go_at_call 16; (with_reducible refine ((c4).out.at hB).mono ?_); rintro e w1 ⟨rfl, hB⟩) | (go_at_call 34; (with_reducible refine ((c5).out.at hB).mono ?_); rintro e w1 ⟨rfl, hB⟩) | (go_at_call 34; (with_reducible refine ((c6).out.at hB).mono ?_); rintro e w1 ⟨rfl, hB⟩) | (go_at_call 38; (with_reducible refine ((c7).out.at hB).mono ?_); rintro e w1 ⟨rfl, hB⟩) | (go_at_call 28; (with_reducible refine ((c8).out.at hB).mono ?_); rintro e w1 ⟨rfl, hB⟩) | (go_at_call 36; (with_reducible refine ((c9).out.at hB).mono ?_); rintro e w1 ⟨rfl, hB⟩) | (go_at_call 21; (with_reducible refine ((c10).out.at hB).mono ?_); rintro e w1 ⟨rfl, hB⟩) | (go_at_call 36; (with_reducible refine ((c11).out.at hB).mono ?_); rintro e w1 ⟨rfl, hB⟩) | fail)
        go_ret
        exact ⟨rfl, hB⟩
    · obtain ⟨H, Z, O, D, G, K, K', c1, c2, c3, c4, c5, c6, c7, c8, c9, c10, c11, hK⟩ := facts1 N k g h1 h5 hk hg w
      clear hg
      generalize T N g = F at *
      rcases hK with ⟨rfl, rfl, hz, ho⟩ | ⟨rfl, rfl, rfl, ho⟩ | ⟨rfl, rfl, rfl, hz⟩
      · have z1 := str_ne hz
        have z2 := str_ne ho
        clear hz ho
        go_wp2_with (first | (go_at_call 36; (with_reducible refine ((c1).out.at hB).mono ?_); rintro e w1 ⟨rfl, hB⟩) | (go_at_call 37; (with_reducible refine ((c2).out.at hB).mono ?_); rintro e w1 ⟨rfl, hB⟩) | (go_at_call 33; (with_reducible refine ((c3).out.at hB).mono ?_); rintro e w1 ⟨rfl, hB⟩) | (go_at_call 16; (with_reducible refine ((c4).out.at hB).mono ?_); rintro e w1 ⟨rfl, hB⟩) | (go_at_call 34; (with_reducible refine ((c5).out.at hB).mono ?_); rintro e w1 ⟨rfl, hB⟩) | (go_at_call 34; (with_reducible refine ((c6).out.at hB).mono ?_); rintro e w1 ⟨rfl, hB⟩) | (go_at_call 38; (with_reducible refine ((c7).out.at hB).mono ?_); rintro e w1 ⟨rfl, hB⟩) | (go_at_call 28; (with_reducible refine ((c8).out.at hB).mono ?_); rintro e w1 ⟨rfl, hB⟩) | (go_at_call 36; (with_reducible refine ((c9).out.at hB).mono ?_); rintro e w1 ⟨rfl, hB⟩) | (go_at_call 21; (with_reducible refine ((c10).out.at hB).mono ?_); rintro e w1 ⟨rfl, hB⟩) | (go_at_call 36; (with_reducible refine ((c11).out.at hB).mono ?_); rintro e w1 ⟨rfl, hB⟩) | fail)
        go_ret
        exact ⟨rfl, hB⟩
      · have z2 := str_ne ho
        clear ho
        go_wp2_with (first | (go_at_call 36; (with_reducible refine ((c1).out.at hB).mono ?_); rintro e w1 ⟨rfl, hB⟩) | (go_at_call 37; (with_reducible refine ((c2).out.at hB).mono ?_); rintro e w1 ⟨rfl, hB⟩) | (go_at_call 33; (with_reducible refine ((c3).out.at hB).mono ?_); rintro e w1 ⟨rfl, hB⟩) | (go_at_call 16; (with_reducible refine ((c4).out.at hB).mono ?_); rintro e w1 ⟨rfl, hB⟩) | (go_at_call 34; (with_reducible refine ((c5).out.at hB).mono ?_); rintro e w1 ⟨rfl, hB⟩) | (go_at_call 34; (with_reducible refine ((c6).out.at hB).mono ?_); rintro e w1 ⟨rfl, hB⟩) | (go_at_call 38; (with_reducible refine ((c7).out.at hB).mono ?_); rintro e w1 ⟨rfl, hB⟩) | (go_at_call 28; (with_reducible refine ((c8).out.at hB).mono ?_); rintro e w1 ⟨rfl, hB⟩) | (go_at_call 36; (with_reducible refine ((c9).out.at hB).mono ?_); rintro e w1 ⟨rfl, hB⟩) | (go_at_call 21; (with_reducible refine ((c10).out.at hB).mono ?_); rintro e w1 ⟨rfl, hB⟩) | (go_at_call 36; (with_reducible refine ((c11).out.at hB).mono ?_); rintro e w1 ⟨rfl, hB⟩) | fail)
        go_ret
        exact ⟨rfl, hB⟩
      · have z1 := str_ne hz
        clear hz
        go_wp2_with (first | (go_at_call 36; (with_reducible refine ((c1).out.at hB).mono ?_); rintro e w1 ⟨rfl, hB⟩) | (go_at_call 37; (with_reducible refine ((c2).out.at hB).mono ?_); rintro e w1 ⟨rfl, hB⟩) | (go_at_call 33; (with_reducible refine ((c3).out.at hB).mono ?_); rintro e w1 ⟨rfl, hB⟩) | (go_at_call 16; (with_reducible refine ((c4).out.at hB).mono ?_); rintro e w1 ⟨rfl, hB⟩) | (go_at_call 34; (with_reducible refine ((c5).out.at hB).mono ?_); rintro e w1 ⟨rfl, hB⟩) | (go_at_call 34; (with_reducible refine ((c6).out.at hB).mono ?_); rintro e w1 ⟨rfl, hB⟩) | (go_at_call 38; (with_reducible refine ((c7).out.at hB).mono ?_); rintro e w1 ⟨rfl, hB⟩) | (go_at_call 28; (with_reducible refine ((c8).out.at hB).mono ?_); rintro e w1 ⟨rfl, hB⟩) | (go_at_call 36; (with_reducible refine ((c9).out.at hB).mono ?_); rintro e w1 ⟨rfl, hB⟩) | (go_at_call 21; (with_reducible refine ((c10).out.at hB).mono ?_); rintro e w1 ⟨rfl, hB⟩) | (go_at_call 36; (with_reducible refine ((c11).out.at hB).mono ?_); rintro e w1 ⟨rfl, hB⟩) | fail)
        go_ret
        exact ⟨rfl, hB⟩

theorem own : ownKnob Try.prog.godebug = none := by kernel_rfl
theorem laidOut : laidOutB Try.prog = true := by kernel_rfl

set_option maxRecDepth 100000 in
theorem lifted (os : Os) (started : os.Started) (H : Type) (enc : TypeId × Value → H) :
    ReturnsInHanded {} Try.checked os 6 .any (Rows.fnDecidesSpec.pre6 enc Try.prog Try.f6 Rows.fnDecidesRow.domain false) (Rows.fnDecidesSpec.post enc Try.prog Try.f6 false true false false) := by
  refine returnsInHanded_of_change (C := Try.checked) own started (by kernel_rfl) Try.func6
    (ChangeSpec.witness6 (enc := enc) (C := Try.checked) false ⟨#[], #[.slice none 0 0], []⟩ 8 (by kernel_rfl) (by kernel_rfl) (by kernel_rfl) (by kernel_rfl)) ?_
  intro W base args ds gs before hval0 hW hcnd _
  have hval : ∀ (j : Nat) t v, Try.f6.params[j]? = some t → args[j]? = some v → Value.okWide Try.prog W .any base t v := hval0
  have hW' := hW
  obtain ⟨p, q, hA0, hV, rfl, hfz, hnd⟩ := hW
  have hA : DataW.TrodAll enc Try.prog W 0 (fun _ => true) true Try.f6.params.toList args.toList ds p := hA0
  rw [Try.params6] at hA hval
  obtain ⟨v0, vs0, d0, ds0, p0, q0, hargs, rfl, rfl, h0, r0⟩ := trodAll_cons hA
  obtain ⟨rfl, rfl, rfl⟩ := trodAll_nil r0
  obtain rfl : args = #[v0] := by cases args; simp_all
  obtain ⟨rfl, rfl⟩ := trodVars_none hV
  obtain ⟨a0, len0, cap0, rfl⟩ := okWide_slice Try.underlying22 (hval 0 22 v0 rfl rfl)
  have k0 := h0
  have lt0 : ∀ x ∈ p0, x.block < W.heap.size := by obtain ⟨m, hm⟩ := k0; exact DataW.trod_lt m _ _ _ hm
  have w0 : ArgB W a0 len0 cap0 := by
    obtain ⟨fuel, hf⟩ := h0
    rcases open_ints Try.underlying22 Try.underlying5 (by kernel_rfl) hf with ⟨hcs, _⟩ | ⟨x, l, c, zs, hcs, _, hl, hm, hz, _, hcell, hwz⟩
    · simp [Value.cells] at hcs
      obtain ⟨rfl, rfl, rfl⟩ := hcs
      exact ⟨Nat.le_refl _, Nat.zero_le _, fun h => absurd rfl h⟩
    · simp [Value.cells] at hcs
      obtain ⟨rfl, rfl, rfl⟩ := hcs
      exact argB_of W _ _ _ zs hl hm (by simpa using hz) hcell hwz
  clear hA0 hval0
  refine (walk_FnDecides a0 len0 cap0 W w0).mono fun e W' ⟨he, bel⟩ => ?_
  subst he
  exact ⟨_, rfl, _, _, _, [], _, [], hW', trodAll_mk1 (shut_bool Try.underlying4 _), (trodAll_cons_mk (Below.trod laidOut (by kernel_rfl) (of_decide_eq_true (by kernel_rfl)) k0 bel lt0) trodAll_mk0), rfl, bel.frame _, fun h => by cases h⟩

theorem over : Rows.fnDecidesRow.holds Try.pinned (OpenSpec.ofChange Rows.fnDecidesSpec) :=
  OpenClaim.holds_of_wide 6 Try.f6 rfl rfl rfl rfl rfl rfl rfl ⟨rfl, rfl, rfl, rfl, rfl⟩ rfl rfl rfl rfl rfl (by kernel_rfl) Try.func6 (by kernel_rfl)
    (of_decide_eq_true (by kernel_rfl)) (by unfold Func.isWrapper; first | (rw [if_pos (by decide +kernel)]; kernel_rfl) | (rw [if_neg (by decide +kernel)]; exact ⟨rfl, rfl⟩))
    (fun os started H enc _ => lifted os started H enc)
end fnDecides

theorem fnDecides_holds : Rows.FnDecidesSaid := fnDecides.over
#print axioms fnDecides_holds
end Go.Proofs.Ytjpkpdihldcdaaa
