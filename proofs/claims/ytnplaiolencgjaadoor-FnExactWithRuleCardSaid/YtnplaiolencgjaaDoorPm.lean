import Derived.Lib.Split
import Derived.Lib.IndexBytes
import Derived.Lib.IndexLaws
namespace Go.Proofs.YtnplaiolencgjaaDoor
set_option linter.unusedVariables false
set_option linter.unusedSimpArgs false
open Go

/-- A text cut at every byte c; 'cur' is the piece begun. -/
def cutG (c : UInt8) (cur : List UInt8) : List UInt8 → List (List UInt8)
  | [] => [cur]
  | b :: l => if b == c then cur :: cutG c [] l else cutG c (cur ++ [b]) l

theorem cutG_none (c : UInt8) : ∀ (l cur : List UInt8), (∀ k : Nat, l[k]? ≠ some c) → cutG c cur l = [cur ++ l]
  | [], cur, _ => by simp [cutG]
  | b :: l, cur, h => by
    have hb : ¬ (b == c) = true := fun e => h 0 (by simp [beq_iff_eq.1 e])
    rw [cutG, if_neg hb, cutG_none c l _ (fun k => by have := h (k + 1); simpa using this)]
    simp

theorem cutG_some (c : UInt8) : ∀ (l cur : List UInt8) (i : Nat), l[i]? = some c → (∀ k : Nat, k < i → l[k]? ≠ some c) → cutG c cur l = (cur ++ l.take i) :: cutG c [] (l.drop (i + 1))
  | [], cur, i, h, _ => by simp at h
  | b :: l, cur, 0, h, _ => by
    have hb : (b == c) = true := by simpa using h
    rw [cutG, if_pos hb]; simp
  | b :: l, cur, i + 1, h, h2 => by
    have hb : ¬ (b == c) = true := fun e => h2 0 (by omega) (by simp [beq_iff_eq.1 e])
    rw [cutG, if_neg hb, cutG_some c l _ i (by simpa using h) (fun k hk => by have := h2 (k + 1) (by omega); simpa using this)]
    simp

theorem cutG_split (c : UInt8) : ∀ (n : Nat) (l : List UInt8), l.length ≤ n → Lib.splitK [c] 0 (Lib.count l [c]) l = cutG c [] l := by
  intro n
  induction n with
  | zero =>
    intro l hl
    have : l = [] := List.length_eq_zero_iff.1 (by omega)
    subst this
    have e : Lib.index ([] : List UInt8) [c] = -1 := by rw [Lib.index_one]; rfl
    rw [Lib.count_miss e]; rfl
  | succ n ih =>
    intro l hl
    by_cases hm : Lib.index l [c] = -1
    · rw [Lib.count_miss hm, cutG_none c l [] (Lib.indexByte_none (by rw [← Lib.index_one]; exact hm))]; rfl
    · have hge := Lib.index_ge l [c]
      obtain ⟨i, hi⟩ : ∃ i : Nat, Lib.index l [c] = i := ⟨(Lib.index l [c]).toNat, by omega⟩
      have hs := Lib.indexByte_some (l := l) (c := c) (o := i) (by rw [← Lib.index_one]; exact hi)
      rw [Lib.count_hit (by simp) hi, Nat.add_comm, Lib.splitK, if_neg (by simpa using hm), hi, cutG_some c l [] i hs.1 hs.2]
      have hlt : i < l.length := by
        have := hs.1
        exact (List.getElem?_eq_some_iff.1 this).1
      have := ih (l.drop (i + 1)) (by rw [List.length_drop]; omega)
      simp only [List.length_cons, List.length_nil, Nat.zero_add, Int.toNat_natCast, Nat.add_zero, List.nil_append]
      rw [this]

theorem cutG_splitB (c : UInt8) (s sep : ByteArray) (hsep : sep.data.toList = [c]) :
    (Lib.splitB sep 0 (Lib.countB s sep) s).map (·.data.toList) = cutG c [] s.data.toList := by
  rw [Lib.splitB_data]
  show Lib.splitK sep.data.toList 0 (Lib.count s.data.toList sep.data.toList) s.data.toList = _
  rw [hsep]
  exact cutG_split c _ _ (Nat.le_refl _)

theorem cutG_length_pos (c : UInt8) : ∀ (l cur : List UInt8), 0 < (cutG c cur l).length
  | [], _ => by simp [cutG]
  | b :: l, cur => by
    rw [cutG]; split
    · simp
    · exact cutG_length_pos c l _

theorem cutG_length_le (c : UInt8) : ∀ (l cur : List UInt8), (cutG c cur l).length ≤ l.length + 1
  | [], _ => by simp [cutG]
  | b :: l, cur => by
    rw [cutG]; split
    · have := cutG_length_le c l []; simp; omega
    · have := cutG_length_le c l (cur ++ [b]); simp; omega

theorem cutG_piece_le (c : UInt8) : ∀ (l cur p : List UInt8), p ∈ cutG c cur l → p.length ≤ cur.length + l.length
  | [], cur, p, h => by simp [cutG] at h; subst h; simp
  | b :: l, cur, p, h => by
    rw [cutG] at h; split at h
    · rcases List.mem_cons.1 h with h | h
      · subst h; simp
      · have := cutG_piece_le c l [] p h; simp at this; simp; omega
    · have := cutG_piece_le c l _ p h; simp at this; simp; omega

theorem cutG_step_hit (c : UInt8) (l : List UInt8) (i : Nat) (cur : List UInt8) (h : l[i]? = some c) : cutG c cur (l.drop i) = cur :: cutG c [] (l.drop (i + 1)) := by
  rw [cutG_some c (l.drop i) cur 0 (by simpa using h) (fun k hk => absurd hk (Nat.not_lt_zero _))]
  simp

theorem cutG_step_miss (c : UInt8) (l : List UInt8) (i : Nat) (cur : List UInt8) (b : UInt8) (h : l[i]? = some b) (hb : b ≠ c) : cutG c cur (l.drop i) = cutG c (cur ++ [b]) (l.drop (i + 1)) := by
  obtain ⟨hlt, hget⟩ := List.getElem?_eq_some_iff.1 h
  rw [List.drop_eq_getElem_cons hlt, hget, cutG, if_neg (by simpa using hb)]

end Go.Proofs.YtnplaiolencgjaaDoor
