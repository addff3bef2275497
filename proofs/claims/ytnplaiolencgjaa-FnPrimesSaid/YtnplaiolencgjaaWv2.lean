/- Walks: a list without an element. -/
import Derived.Test.YtnplaiolencgjaaWv
namespace Go.Proofs.Ytnplaiolencgjaa
set_option linter.unusedVariables false
set_option linter.unusedSimpArgs false
open Go.RowKit

theorem withoutI (ts : List (List UInt8)) (b off c i : Nat) (w : World) (hi : i < ts.length) (hl : ts.length ≤ 30000) (hlc : ts.length ≤ c) (hcm : c ≤ maxLen) (hr : Row w (.slice (some ⟨b, off, none⟩) ts.length c) (textsV ts)) :
    Calls Try.prog 32 #[.slice (some ⟨b, off, none⟩) ts.length c, .int .i64 (i : Int)] w fun e w' => (∃ u, e = .returned u ∧ w'.ownsRow w.heap.size 9 1 u (ts.length - 1) (textsV (wout ts i))) ∧ Below w.heap.size w w' := by
  have R1 := Lib.hid (row_take hr i (by omega))
  have R2 := Lib.hid (show Src w (if c = i + 1 then some ⟨b, off, none⟩ else some ⟨b, off + (i + 1), none⟩) (textsV (ts.drop (i + 1))) by
    split
    · next h =>
      rw [List.drop_eq_nil_of_le (by omega)]
      exact Src.none_ _ _
    · exact row_drop hr i hi)
  obtain ⟨n, hn⟩ : ∃ n, n = ts.length := ⟨_, rfl⟩
  rw [← hn] at hi hl hlc ⊢
  have HN := Lib.hid hn
  unfold maxLen at hcm
  clear hr hn
  go_enter Try.func32, Try.ntmps32
  go_wp2_with fail
  have q0 : (0 : Int) ≤ (i : Int) := Int.natCast_nonneg _
  have q1 : (i : Int) ≤ (c : Int) := by omega
  have w1 : IntKind.i64.wrap ((i : Int) + 1) = (i : Int) + 1 := IntWalk.i64_in _ (by omega)
  have w2 : (0 : Int) ≤ (i : Int) + 1 := by omega
  have w3 : ((i : Int) + 1).toNat = i + 1 := by omega
  have w5 : (i : Int) + 1 ≤ (n : Int) := by omega
  go_region_law (first
    | (go_simp; go_at_call 45; refine (cloneS _ (ts.take i) _ (by rw [List.length_take]; omega) ?_).mono ?_; exact R1.out; rintro e w6 ⟨⟨u, rfl, hu⟩, hb3⟩)
    | (refine step_append_row _ (by rfl) _ _ _ (by rfl) w.heap.size 9 (.string ⟨#[]⟩) 16 Try.underlying24 infoS rfl u (ts.take i).length (textsV (ts.take i)) (by rfl) hu (if c = i + 1 then some ⟨b, off, none⟩ else some ⟨b, off + (i + 1), none⟩) (n - (i + 1)) (c - (i + 1)) (textsV (ts.drop (i + 1))) (by rfl) (by rw [textsV_length, List.length_drop, ← HN.out]) (by exact Src.below (w := w.drew) R2.out hb3) (texts_one _) (by rw [List.length_take]; omega) (by decide) (by exact hb3.size) ?_; intro v4 w4 hown4 hg4 hat4 hbel4))
  have hlen : (ts.take i).length + (n - (i + 1)) = n - 1 := by rw [List.length_take, ← HN.out]; omega
  go_wp2_with fail
  all_goals
    go_ret
    refine ⟨⟨_, rfl, ?_⟩, ?_⟩
    · rw [hlen] at hown4
      simpa [wout, textsV] using hown4
    · exact ((Below.refl _ _).drew.trans hb3).trans hbel4

end Go.Proofs.Ytnplaiolencgjaa
