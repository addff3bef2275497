/-
  'laws.FnHoldInput' returns true for every input, and each argument reads behind the call as it read before. No conditions.
-/
import Derived.Test.YtjpkpdihldcdaaaRows
import Derived.Test.YtjpkpdihldcdaaaWx
import Derived.WalkKit
import Derived.ProofKit
import Derived.OpenShut
import Derived.ShutString
import Derived.ChangeOld
import Derived.Below
import Derived.SliceStrings
namespace Go.Proofs.Ytjpkpdihldcdaaa
set_option linter.unusedVariables false
set_option linter.unusedSimpArgs false
namespace fnHoldInput
open Go.ChangeShapes Go.WideShapes Go.ChangeAt Go.RowKit
open Go.ChangeMaps (open_string shut_string)
open Go.RowKit
set_option linter.unusedVariables false

theorem no_facts (F : ByteArray) (i v : Int) (hF : F.size ≤ 100) (w0 : World) (hb : holdOk F.data.toList i v = false) :
    Hid (Co w0 33 #[.string F, .int .i64 i, .int .i64 v] (.tuple #[.string ⟨#[]⟩, .bool false])) ∧ Hid (Co w0 48 #[.string F, .int .i64 i, .int .i64 v] (.tuple #[.string ⟨#[]⟩, .bool false])) := by
  have f1 : F.size ≤ maxLen := by unfold maxLen; omega
  exact ⟨(co w0 fun w => holdInputI F i v w f1).as (sb_eq (strI_no hb) hb), (co w0 fun w => holdInputS F i v w f1).as (sb_eq (strI_no hb) hb)⟩

theorem hold_T (F : ByteArray) (i v : Int) (hb : holdOk F.data.toList i v = true) : ∃ (n k : Nat) (g : Nat → Nat), 1 ≤ n ∧ n ≤ 5 ∧ k < n ∧ i = (k : Int) ∧ (v = 0 ∨ v = 1) ∧ (∀ s, g s ≤ 1) ∧ F = T n g := by
  unfold holdOk valOk at hb
  simp only [Bool.and_eq_true, decide_eq_true_eq] at hb
  obtain ⟨h1, h2, h3⟩ := hb
  have h1' := h1
  unfold inOk at h1
  simp only [Bool.and_eq_true, decide_eq_true_eq] at h1
  obtain ⟨n, g, hn1, hn5, hg, rfl⟩ := tab_T F h1.1
  rw [lgN_T hn1 hn5] at h1
  exact ⟨n, i.toNat, g, hn1, hn5, by omega, by omega, by omega, hg, rfl⟩

theorem sg_lit (n : Nat) (g : Nat → Nat) (i : Nat) : sgT n g i = ⟨#[48]⟩ ∨ sgT n g i = ⟨#[43]⟩ ∨ sgT n g i = ⟨#[45]⟩ ∨ sgT n g i = ⟨#[42]⟩ := by
  unfold sgT
  cases upB g (2 ^ n) i <;> cases dnB g (2 ^ n) i
  · exact .inl rfl
  · exact .inr (.inr (.inl rfl))
  · exact .inr (.inl rfl)
  · exact .inr (.inr (.inr rfl))

theorem facts0 (n k : Nat) (g : Nat → Nat) (h1 : 1 ≤ n) (h5 : n ≤ 5) (hk : k < n) (hg : ∀ s, g s ≤ 1) (w0 : World) : ∃ X0 X Y H G A B S : ByteArray,
    Hid (Co w0 33 #[.string (T n g), .int .i64 (k : Int), .int .i64 0] (.tuple #[.string H, .bool true])) ∧
    Hid (Co w0 48 #[.string (T n g), .int .i64 (k : Int), .int .i64 0] (.tuple #[.string H, .bool true])) ∧
    Hid (Co w0 16 #[.string (T n g)] (.int .i64 (n : Int))) ∧
    Hid (Co w0 49 #[.int .i64 (n : Int), .int .i64 (k : Int)] (.tuple #[.string X0, .bool true])) ∧
    Hid (Co w0 50 #[.int .i64 (n : Int), .int .i64 (k : Int)] (.tuple #[.string X0, .bool true])) ∧
    Hid (Co w0 21 #[.string X0] (.tuple #[.string X, .bool true])) ∧
    Hid (Co w0 22 #[.string X0] (.tuple #[.string X, .bool true])) ∧
    Hid (Co w0 21 #[.string X] (.tuple #[.string Y, .bool true])) ∧
    Hid (Co w0 33 #[.string (T n g), .int .i64 (k : Int), .int .i64 1] (.tuple #[.string G, .bool true])) ∧
    Hid (Co w0 24 #[.string X, .string H] (.tuple #[.string A, .bool true])) ∧
    Hid (Co w0 24 #[.string Y, .string G] (.tuple #[.string B, .bool true])) ∧
    Hid (Co w0 26 #[.string A, .string B] (.tuple #[.string (T n g), .bool true])) ∧
    Hid (Co w0 33 #[.string H, .int .i64 (k : Int), .int .i64 1] (.tuple #[.string H, .bool true])) ∧
    Hid (Co w0 51 #[.string H, .int .i64 (k : Int)] (.string ⟨#[48]⟩)) ∧
    Hid (Co w0 51 #[.string (T n g), .int .i64 (k : Int)] (.string S)) ∧
    Hid (S = ⟨#[48]⟩ ↔ H = G) ∧
    (S = ⟨#[48]⟩ ∨ S = ⟨#[43]⟩ ∨ S = ⟨#[45]⟩ ∨ S = ⟨#[42]⟩) := by
  have hx : ∀ s, (fun s => 1 - bitN s k) s ≤ 1 := fun s => Nat.sub_le _ _
  have hy : ∀ s, 1 - (fun s => 1 - bitN s k) s ≤ 1 := fun s => Nat.sub_le _ _
  have hH : ∀ s, g (holdN s k 0) ≤ 1 := fun s => hg _
  have hG : ∀ s, g (holdN s k 1) ≤ 1 := fun s => hg _
  have hA : ∀ s, (fun s => 1 - bitN s k) s * g (holdN s k 0) ≤ 1 := fun s => Nat.mul_le_mul (hx s) (hg _)
  have hB : ∀ s, (1 - (fun s => 1 - bitN s k) s) * g (holdN s k 1) ≤ 1 := fun s => Nat.mul_le_mul (hy s) (hg _)
  have hxx : ∀ s, s < 2 ^ n → (fun s => 1 - bitN s k) s = if bitN s k = 0 then 1 else 0 := fun s _ => by
    rcases b01 (bitN_le s k) with e | e <;> simp only [e] <;> rfl
  exact ⟨T n fun s => bitN s k, T n (fun s => 1 - bitN s k), T n fun s => 1 - (fun s => 1 - bitN s k) s, T n fun s => g (holdN s k 0), T n fun s => g (holdN s k 1), T n fun s => (fun s => 1 - bitN s k) s * g (holdN s k 0), T n fun s => (1 - (fun s => 1 - bitN s k) s) * g (holdN s k 1), sgT n g k,
    tHoldI w0 h1 h5 hg k 0 hk (by omega),
    tHoldS w0 h1 h5 hg k 0 hk (by omega),
    tInputsI w0 h1 h5 hg,
    tInputI w0 h1 h5 k hk,
    tInputS w0 h1 h5 k hk,
    tNotI w0 h1 h5 (fun s => bitN_le s k),
    tNotS w0 h1 h5 (fun s => bitN_le s k),
    tNotI w0 h1 h5 hx,
    tHoldI w0 h1 h5 hg k 1 hk (by omega),
    tAndI w0 h1 h5 hx hH,
    tAndI w0 h1 h5 hy hG,
    (tOrI w0 h1 h5 hA hB).as (sb_eq (hold_split_T h5 k 0 hk (by omega) _ hxx) rfl),
    (tHoldI w0 h1 h5 hH k 1 hk (by omega)).as (sb_eq (hold_again_T h5 k 0 hk (by omega)) rfl),
    (tSignI w0 h1 h5 hH k hk).as (str_eq (sg_hold h5 k 0 hk (by omega))),
    tSignI w0 h1 h5 hg k hk,
    sg_zero_hold hg k 0 (by omega),
    sg_lit n g k⟩

theorem facts1 (n k : Nat) (g : Nat → Nat) (h1 : 1 ≤ n) (h5 : n ≤ 5) (hk : k < n) (hg : ∀ s, g s ≤ 1) (w0 : World) : ∃ X Y H G A B S : ByteArray,
    Hid (Co w0 33 #[.string (T n g), .int .i64 (k : Int), .int .i64 1] (.tuple #[.string H, .bool true])) ∧
    Hid (Co w0 48 #[.string (T n g), .int .i64 (k : Int), .int .i64 1] (.tuple #[.string H, .bool true])) ∧
    Hid (Co w0 16 #[.string (T n g)] (.int .i64 (n : Int))) ∧
    Hid (Co w0 49 #[.int .i64 (n : Int), .int .i64 (k : Int)] (.tuple #[.string X, .bool true])) ∧
    Hid (Co w0 50 #[.int .i64 (n : Int), .int .i64 (k : Int)] (.tuple #[.string X, .bool true])) ∧
    Hid (Co w0 21 #[.string X] (.tuple #[.string Y, .bool true])) ∧
    Hid (Co w0 33 #[.string (T n g), .int .i64 (k : Int), .int .i64 0] (.tuple #[.string G, .bool true])) ∧
    Hid (Co w0 24 #[.string X, .string H] (.tuple #[.string A, .bool true])) ∧
    Hid (Co w0 24 #[.string Y, .string G] (.tuple #[.string B, .bool true])) ∧
    Hid (Co w0 26 #[.string A, .string B] (.tuple #[.string (T n g), .bool true])) ∧
    Hid (Co w0 33 #[.string H, .int .i64 (k : Int), .int .i64 0] (.tuple #[.string H, .bool true])) ∧
    Hid (Co w0 51 #[.string H, .int .i64 (k : Int)] (.string ⟨#[48]⟩)) ∧
    Hid (Co w0 51 #[.string (T n g), .int .i64 (k : Int)] (.string S)) ∧
    Hid (S = ⟨#[48]⟩ ↔ H = G) ∧
    (S = ⟨#[48]⟩ ∨ S = ⟨#[43]⟩ ∨ S = ⟨#[45]⟩ ∨ S = ⟨#[42]⟩) := by
  have hx : ∀ s, (fun s => bitN s k) s ≤ 1 := fun s => bitN_le s k
  have hy : ∀ s, 1 - (fun s => bitN s k) s ≤ 1 := fun s => Nat.sub_le _ _
  have hH : ∀ s, g (holdN s k 1) ≤ 1 := fun s => hg _
  have hG : ∀ s, g (holdN s k 0) ≤ 1 := fun s => hg _
  have hA : ∀ s, (fun s => bitN s k) s * g (holdN s k 1) ≤ 1 := fun s => Nat.mul_le_mul (hx s) (hg _)
  have hB : ∀ s, (1 - (fun s => bitN s k) s) * g (holdN s k 0) ≤ 1 := fun s => Nat.mul_le_mul (hy s) (hg _)
  have hxx : ∀ s, s < 2 ^ n → (fun s => bitN s k) s = if bitN s k = 1 then 1 else 0 := fun s _ => by
    rcases b01 (bitN_le s k) with e | e <;> simp only [e] <;> rfl
  exact ⟨T n (fun s => bitN s k), T n fun s => 1 - (fun s => bitN s k) s, T n fun s => g (holdN s k 1), T n fun s => g (holdN s k 0), T n fun s => (fun s => bitN s k) s * g (holdN s k 1), T n fun s => (1 - (fun s => bitN s k) s) * g (holdN s k 0), sgT n g k,
    tHoldI w0 h1 h5 hg k 1 hk (by omega),
    tHoldS w0 h1 h5 hg k 1 hk (by omega),
    tInputsI w0 h1 h5 hg,
    tInputI w0 h1 h5 k hk,
    tInputS w0 h1 h5 k hk,
    tNotI w0 h1 h5 hx,
    tHoldI w0 h1 h5 hg k 0 hk (by omega),
    tAndI w0 h1 h5 hx hH,
    tAndI w0 h1 h5 hy hG,
    (tOrI w0 h1 h5 hA hB).as (sb_eq (hold_split_T h5 k 1 hk (by omega) _ hxx) rfl),
    (tHoldI w0 h1 h5 hH k 0 hk (by omega)).as (sb_eq (hold_again_T h5 k 1 hk (by omega)) rfl),
    (tSignI w0 h1 h5 hH k hk).as (str_eq (sg_hold h5 k 1 hk (by omega))),
    tSignI w0 h1 h5 hg k hk,
    sg_zero_hold hg k 1 (by omega),
    sg_lit n g k⟩

set_option maxRecDepth 100000 in
set_option maxHeartbeats 1000000 in
theorem walk_FnHoldInput (A : Option Addr) (n c : Nat) (w : World) (h : ArgB w A n c) :
    Calls Try.prog 8 #[.slice A n c] w fun e w' => e = .returned (.bool true) ∧ Below w.heap.size w w' := by
  have hnm := Nat.le_trans h.1 h.2.1
  unfold maxLen at hnm
  by_cases hbig : 1048576 < n
  · go_enter Try.func8, Try.ntmps8
    go_wp2_with fail
    go_ret
    exact ⟨rfl, Below.refl _ _⟩
  go_enter Try.func8, Try.ntmps8
  go_wp2_with fail
  refine (drawHoldInputS A n c w h).mono ?_
  rintro e w1 ⟨F, i, v, hF, hi1, hi2, hv1, hv2, rfl, hB⟩
  clear h
  cases hb : holdOk F.data.toList i v
  · obtain ⟨c1, c2⟩ := no_facts F i v hF w hb
    clear hb
    go_wp2_with (first | (go_at_call 33; (with_reducible refine ((c1).out.at hB).mono ?_); rintro e w1 ⟨rfl, hB⟩) | (go_at_call 48; (with_reducible refine ((c2).out.at hB).mono ?_); rintro e w1 ⟨rfl, hB⟩) | fail)
    go_ret
    exact ⟨rfl, hB⟩
  · obtain ⟨N, k, g, h1, h5, hk, rfl, hv, hg, rfl⟩ := hold_T F i v hb
    clear hb hv1 hv2 hi1 hi2
    rcases hv with rfl | rfl
    · obtain ⟨X0, X, Y, H, G, A', B, S, c1, c2, c3, c4, c5, c6, c7, c8, c9, c10, c11, c12, c13, c14, c15, hSH, hS⟩ := facts0 N k g h1 h5 hk hg w
      clear hg
      generalize T N g = F at *
      rcases hS with rfl | hS
      · obtain rfl : H = G := hSH.out.1 rfl
        clear hSH
        go_wp2_with (first | (go_at_call 33; (with_reducible refine ((c1).out.at hB).mono ?_); rintro e w1 ⟨rfl, hB⟩) | (go_at_call 48; (with_reducible refine ((c2).out.at hB).mono ?_); rintro e w1 ⟨rfl, hB⟩) | (go_at_call 16; (with_reducible refine ((c3).out.at hB).mono ?_); rintro e w1 ⟨rfl, hB⟩) | (go_at_call 49; (with_reducible refine ((c4).out.at hB).mono ?_); rintro e w1 ⟨rfl, hB⟩) | (go_at_call 50; (with_reducible refine ((c5).out.at hB).mono ?_); rintro e w1 ⟨rfl, hB⟩) | (go_at_call 21; (with_reducible refine ((c6).out.at hB).mono ?_); rintro e w1 ⟨rfl, hB⟩) | (go_at_call 22; (with_reducible refine ((c7).out.at hB).mono ?_); rintro e w1 ⟨rfl, hB⟩) | (go_at_call 21; (with_reducible refine ((c8).out.at hB).mono ?_); rintro e w1 ⟨rfl, hB⟩) | (go_at_call 33; (with_reducible refine ((c9).out.at hB).mono ?_); rintro e w1 ⟨rfl, hB⟩) | (go_at_call 24; (with_reducible refine ((c10).out.at hB).mono ?_); rintro e w1 ⟨rfl, hB⟩) | (go_at_call 24; (with_reducible refine ((c11).out.at hB).mono ?_); rintro e w1 ⟨rfl, hB⟩) | (go_at_call 26; (with_reducible refine ((c12).out.at hB).mono ?_); rintro e w1 ⟨rfl, hB⟩) | (go_at_call 33; (with_reducible refine ((c13).out.at hB).mono ?_); rintro e w1 ⟨rfl, hB⟩) | (go_at_call 51; (with_reducible refine ((c14).out.at hB).mono ?_); rintro e w1 ⟨rfl, hB⟩) | (go_at_call 51; (with_reducible refine ((c15).out.at hB).mono ?_); rintro e w1 ⟨rfl, hB⟩) | fail)
        go_ret
        exact ⟨rfl, hB⟩
      · have hne : (H.toList == G.toList) = false := str_ne fun e => by
          have := hSH.out.2 e
          rw [this] at hS
          rcases hS with h | h | h <;> exact absurd h (by decide)
        clear hSH
        rcases hS with rfl | rfl | rfl
        all_goals
          go_wp2_with (first | (go_at_call 33; (with_reducible refine ((c1).out.at hB).mono ?_); rintro e w1 ⟨rfl, hB⟩) | (go_at_call 48; (with_reducible refine ((c2).out.at hB).mono ?_); rintro e w1 ⟨rfl, hB⟩) | (go_at_call 16; (with_reducible refine ((c3).out.at hB).mono ?_); rintro e w1 ⟨rfl, hB⟩) | (go_at_call 49; (with_reducible refine ((c4).out.at hB).mono ?_); rintro e w1 ⟨rfl, hB⟩) | (go_at_call 50; (with_reducible refine ((c5).out.at hB).mono ?_); rintro e w1 ⟨rfl, hB⟩) | (go_at_call 21; (with_reducible refine ((c6).out.at hB).mono ?_); rintro e w1 ⟨rfl, hB⟩) | (go_at_call 22; (with_reducible refine ((c7).out.at hB).mono ?_); rintro e w1 ⟨rfl, hB⟩) | (go_at_call 21; (with_reducible refine ((c8).out.at hB).mono ?_); rintro e w1 ⟨rfl, hB⟩) | (go_at_call 33; (with_reducible refine ((c9).out.at hB).mono ?_); rintro e w1 ⟨rfl, hB⟩) | (go_at_call 24; (with_reducible refine ((c10).out.at hB).mono ?_); rintro e w1 ⟨rfl, hB⟩) | (go_at_call 24; (with_reducible refine ((c11).out.at hB).mono ?_); rintro e w1 ⟨rfl, hB⟩) | (go_at_call 26; (with_reducible refine ((c12).out.at hB).mono ?_); rintro e w1 ⟨rfl, hB⟩) | (go_at_call 33; (with_reducible refine ((c13).out.at hB).mono ?_); rintro e w1 ⟨rfl, hB⟩) | (go_at_call 51; (with_reducible refine ((c14).out.at hB).mono ?_); rintro e w1 ⟨rfl, hB⟩) | (go_at_call 51; (with_reducible refine ((c15).out.at hB).mono ?_); rintro e w1 ⟨rfl, hB⟩) | fail)
          go_ret
          exact ⟨rfl, hB⟩
    · obtain ⟨X, Y, H, G, A', B, S, c1, c2, c3, c4, c5, c6, c7, c8, c9, c10, c11, c12, c13, hSH, hS⟩ := facts1 N k g h1 h5 hk hg w
      clear hg
      generalize T N g = F at *
      rcases hS with rfl | hS
      · obtain rfl : H = G := hSH.out.1 rfl
        clear hSH
        go_wp2_with (first | (go_at_call 33; (with_reducible refine ((c1).out.at hB).mono ?_); rintro e w1 ⟨rfl, hB⟩) | (go_at_call 48; (with_reducible refine ((c2).out.at hB).mono ?_); rintro e w1 ⟨rfl, hB⟩) | (go_at_call 16; (with_reducible refine ((c3).out.at hB).mono ?_); rintro e w1 ⟨rfl, hB⟩) | (go_at_call 49; (with_reducible refine ((c4).out.at hB).mono ?_); rintro e w1 ⟨rfl, hB⟩) | (go_at_call 50; (with_reducible refine ((c5).out.at hB).mono ?_); rintro e w1 ⟨rfl, hB⟩) | (go_at_call 21; (with_reducible refine ((c6).out.at hB).mono ?_); rintro e w1 ⟨rfl, hB⟩) | (go_at_call 33; (with_reducible refine ((c7).out.at hB).mono ?_); rintro e w1 ⟨rfl, hB⟩) | (go_at_call 24; (with_reducible refine ((c8).out.at hB).mono ?_); rintro e w1 ⟨rfl, hB⟩) | (go_at_call 24; (with_reducible refine ((c9).out.at hB).mono ?_); rintro e w1 ⟨rfl, hB⟩) | (go_at_call 26; (with_reducible refine ((c10).out.at hB).mono ?_); rintro e w1 ⟨rfl, hB⟩) | (go_at_call 33; (with_reducible refine ((c11).out.at hB).mono ?_); rintro e w1 ⟨rfl, hB⟩) | (go_at_call 51; (with_reducible refine ((c12).out.at hB).mono ?_); rintro e w1 ⟨rfl, hB⟩) | (go_at_call 51; (with_reducible refine ((c13).out.at hB).mono ?_); rintro e w1 ⟨rfl, hB⟩) | fail)
        go_ret
        exact ⟨rfl, hB⟩
      · have hne : (H.toList == G.toList) = false := str_ne fun e => by
          have := hSH.out.2 e
          rw [this] at hS
          rcases hS with h | h | h <;> exact absurd h (by decide)
        clear hSH
        rcases hS with rfl | rfl | rfl
        all_goals
          go_wp2_with (first | (go_at_call 33; (with_reducible refine ((c1).out.at hB).mono ?_); rintro e w1 ⟨rfl, hB⟩) | (go_at_call 48; (with_reducible refine ((c2).out.at hB).mono ?_); rintro e w1 ⟨rfl, hB⟩) | (go_at_call 16; (with_reducible refine ((c3).out.at hB).mono ?_); rintro e w1 ⟨rfl, hB⟩) | (go_at_call 49; (with_reducible refine ((c4).out.at hB).mono ?_); rintro e w1 ⟨rfl, hB⟩) | (go_at_call 50; (with_reducible refine ((c5).out.at hB).mono ?_); rintro e w1 ⟨rfl, hB⟩) | (go_at_call 21; (with_reducible refine ((c6).out.at hB).mono ?_); rintro e w1 ⟨rfl, hB⟩) | (go_at_call 33; (with_reducible refine ((c7).out.at hB).mono ?_); rintro e w1 ⟨rfl, hB⟩) | (go_at_call 24; (with_reducible refine ((c8).out.at hB).mono ?_); rintro e w1 ⟨rfl, hB⟩) | (go_at_call 24; (with_reducible refine ((c9).out.at hB).mono ?_); rintro e w1 ⟨rfl, hB⟩) | (go_at_call 26; (with_reducible refine ((c10).out.at hB).mono ?_); rintro e w1 ⟨rfl, hB⟩) | (go_at_call 33; (with_reducible refine ((c11).out.at hB).mono ?_); rintro e w1 ⟨rfl, hB⟩) | (go_at_call 51; (with_reducible refine ((c12).out.at hB).mono ?_); rintro e w1 ⟨rfl, hB⟩) | (go_at_call 51; (with_reducible refine ((c13).out.at hB).mono ?_); rintro e w1 ⟨rfl, hB⟩) | fail)
          go_ret
          exact ⟨rfl, hB⟩

theorem own : ownKnob Try.prog.godebug = none := by kernel_rfl
theorem laidOut : laidOutB Try.prog = true := by kernel_rfl

set_option maxRecDepth 100000 in
theorem lifted (os : Os) (started : os.Started) (H : Type) (enc : TypeId × Value → H) :
    ReturnsInHanded {} Try.checked os 8 .any (Rows.fnHoldInputSpec.pre6 enc Try.prog Try.f8 Rows.fnHoldInputRow.domain false) (Rows.fnHoldInputSpec.post enc Try.prog Try.f8 false true false false) := by
  refine returnsInHanded_of_change (C := Try.checked) own started (by kernel_rfl) Try.func8
    (ChangeSpec.witness6 (enc := enc) (C := Try.checked) false ⟨#[], #[.slice none 0 0], []⟩ 8 (by kernel_rfl) (by kernel_rfl) (by kernel_rfl) (by kernel_rfl)) ?_
  intro W base args ds gs before hval0 hW hcnd _
  have hval : ∀ (j : Nat) t v, Try.f8.params[j]? = some t → args[j]? = some v → Value.okWide Try.prog W .any base t v := hval0
  have hW' := hW
  obtain ⟨p, q, hA0, hV, rfl, hfz, hnd⟩ := hW
  have hA : DataW.TrodAll enc Try.prog W 0 (fun _ => true) true Try.f8.params.toList args.toList ds p := hA0
  rw [Try.params8] at hA hval
  obtain ⟨v0, vs0, d0, ds0, p0, q0, hargs, rfl, rfl, h0, r0⟩ := trodAll_cons hA
  obtain ⟨rfl, rfl, rfl⟩ := trodAll_nil r0
  obtain rfl : args = #[v0] := by cases args; simp_all
  obtain ⟨rfl, rfl⟩ := trodVars_none hV
  obtain ⟨a0, len0, cap0, rfl⟩ := okWide_slice Try.underlying22 (hval 0 22 v0 rfl rfl)
  have k0 := h0
  have lt0 : ∀ x ∈ p0, x.block < W.heap.size := by obtain ⟨m, hm⟩ := k0; exact DataW.trod_lt m _ _ _ hm
  have w0 : ArgB W a0 len0 cap0 := by
    obtain ⟨fuel, hf⟩ := h0
    rcases open_ints Try.underlying22 Try.underlying5 (by kernel_rfl) hf with ⟨hcs, _⟩ | ⟨x, l, c, zs, hcs, _, hl, hm, hz, _, hcell, hwz⟩
    · simp [Value.cells] at hcs
      obtain ⟨rfl, rfl, rfl⟩ := hcs
      exact ⟨Nat.le_refl _, Nat.zero_le _, fun h => absurd rfl h⟩
    · simp [Value.cells] at hcs
      obtain ⟨rfl, rfl, rfl⟩ := hcs
      exact argB_of W _ _ _ zs hl hm (by simpa using hz) hcell hwz
  clear hA0 hval0
  refine (walk_FnHoldInput a0 len0 cap0 W w0).mono fun e W' ⟨he, bel⟩ => ?_
  subst he
  exact ⟨_, rfl, _, _, _, [], _, [], hW', trodAll_mk1 (shut_bool Try.underlying4 _), (trodAll_cons_mk (Below.trod laidOut (by kernel_rfl) (of_decide_eq_true (by kernel_rfl)) k0 bel lt0) trodAll_mk0), rfl, bel.frame _, fun h => by cases h⟩

theorem over : Rows.fnHoldInputRow.holds Try.pinned (OpenSpec.ofChange Rows.fnHoldInputSpec) :=
  OpenClaim.holds_of_wide 8 Try.f8 rfl rfl rfl rfl rfl rfl rfl ⟨rfl, rfl, rfl, rfl, rfl⟩ rfl rfl rfl rfl rfl (by kernel_rfl) Try.func8 (by kernel_rfl)
    (of_decide_eq_true (by kernel_rfl)) (by unfold Func.isWrapper; first | (rw [if_pos (by decide +kernel)]; kernel_rfl) | (rw [if_neg (by decide +kernel)]; exact ⟨rfl, rfl⟩))
    (fun os started H enc _ => lifted os started H enc)
end fnHoldInput

theorem fnHoldInput_holds : Rows.FnHoldInputSaid := fnHoldInput.over
#print axioms fnHoldInput_holds
end Go.Proofs.Ytjpkpdihldcdaaa
