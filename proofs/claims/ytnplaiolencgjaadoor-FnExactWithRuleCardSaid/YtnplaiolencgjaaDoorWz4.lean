/- Walks: a text cut at its commas, the program. -/
import Derived.Test.YtnplaiolencgjaaDoorWz3
import Derived.Test.YtnplaiolencgjaaDoorWsD
namespace Go.Proofs.YtnplaiolencgjaaDoor
set_option linter.unusedVariables false
set_option linter.unusedSimpArgs false
open Go.RowKit

theorem cut_count : ∀ (n : Nat) (l : List UInt8), l.length ≤ n → (Lib.splitK [44] 0 (Lib.count l [44]) l).length = Lib.count l [44] + 1 := by
  intro n
  induction n with
  | zero =>
    intro l hl
    have : l = [] := List.length_eq_zero_iff.1 (by omega)
    subst this
    have e : Lib.index ([] : List UInt8) [44] = -1 := by rw [Lib.index_one]; rfl
    rw [Lib.count_miss e]; rfl
  | succ n ih =>
    intro l hl
    by_cases hm : Lib.index l [44] = -1
    · rw [Lib.count_miss hm]; rfl
    · have hge := Lib.index_ge l [44]
      obtain ⟨i, hi⟩ : ∃ i : Nat, Lib.index l [44] = i := ⟨(Lib.index l [44]).toNat, by omega⟩
      have hs := Lib.indexByte_some (l := l) (c := 44) (o := i) (by rw [← Lib.index_one]; exact hi)
      have hlt : i < l.length := (List.getElem?_eq_some_iff.1 hs.1).1
      rw [Lib.count_hit (by simp) hi, Nat.add_comm, Lib.splitK, if_neg (by simpa using hm), hi]
      have := ih (l.drop (i + 1)) (by rw [List.length_drop]; omega)
      simp only [List.length_cons, List.length_nil, Nat.zero_add, Int.toNat_natCast]
      rw [this]

theorem splitI (s : ByteArray) (m : Int) (w : World) (hs : s.size ≤ 1048576) (hm : w.cell? ⟨0, 0, none⟩ = some (.int .i64 m)) :
    Calls Tryd.prog 51 #[.string s, .string ⟨#[44]⟩] w fun e w' => ∃ v, e = .returned v ∧ Res w' w.heap.size 9 v (textsV (cutG 44 [] s.data.toList)) ∧ Below w.heap.size w w' := by
  refine (Tryd.strings_Split s ⟨#[44]⟩ m w (by omega) hm (by decide)).mono ?_
  rintro e w' ⟨rfl, rfl⟩
  have hd := cutG_splitB 44 s ⟨#[44]⟩ rfl
  have hc : (Lib.splitB ⟨#[44]⟩ 0 (Lib.countB s ⟨#[44]⟩) s).length = Lib.countB s ⟨#[44]⟩ + 1 := by
    have := congrArg List.length hd
    rw [List.length_map] at this
    rw [this, ← cutG_split 44 _ _ (Nat.le_refl _)]
    exact cut_count _ _ (Nat.le_refl _)
  have hle := cutG_length_le 44 s.data.toList []
  rw [← hd] at hle ⊢
  rw [List.length_map] at hle
  have e1 : s.data.toList.length = s.size := rfl
  have ht : textsV ((Lib.splitB ⟨#[44]⟩ 0 (Lib.countB s ⟨#[44]⟩) s).map (·.data.toList)) = (Lib.splitB ⟨#[44]⟩ 0 (Lib.countB s ⟨#[44]⟩) s).map Value.string := by
    unfold textsV; simp
  refine ⟨_, rfl, ?_, (Below.refl _ _).alloc (Nat.le_refl _) _⟩
  rw [ht]
  refine Res.of_own (n := Lib.countB s ⟨#[44]⟩ + 1) ⟨by simp [hc], .inr ⟨w.heap.size, _, _, rfl, Nat.le_refl _, heap_alloc_new _ _, Nat.le_refl _, by unfold maxLen; omega, by simp [hc], by rw [Nat.mul_one]; exact List.take_of_length_le (by simp [hc])⟩⟩

end Go.Proofs.YtnplaiolencgjaaDoor
