/- Walks: what is known of the greatest terms. -/
import Derived.Test.YtnplaiolencgjaaWx
import Derived.Test.YtnplaiolencgjaaPj
import Derived.Test.YtnplaiolencgjaaWk3
import Derived.Test.YtnplaiolencgjaaWn
namespace Go.Proofs.Ytnplaiolencgjaa
set_option linter.unusedVariables false
set_option linter.unusedSimpArgs false
open Go.RowKit

theorem allT_less : ∀ n < 6, (allT n).Pairwise (fun a b => (Op.bytesLess b a || b == a) = false) := by decide +kernel

/-- What is known of the greatest terms of a table. -/
theorem primFacts (F : ByteArray) (hb : isTab F.data.toList = true) : ∃ (n : Nat), 1 ≤ n ∧ n ≤ 5 ∧ (primL F.data.toList).length ≤ 243 ∧
    Hid (∀ w0, Co w0 8 #[.string F] (.bool true)) ∧ Hid (∀ w0, Co w0 12 #[.string F] (.int .i64 (n : Int))) ∧
    Hid (∀ p ∈ primL F.data.toList, ∀ w, Calls Try.prog 9 #[.string F, .string ⟨p.toArray⟩] w fun e w' => e = .returned (.bool true) ∧ Below w.heap.size w w') ∧
    Hid (∀ p ∈ primL F.data.toList, ∀ q ∈ primL F.data.toList, p ≠ q → ∀ w, Calls Try.prog 10 #[.string ⟨p.toArray⟩, .string ⟨q.toArray⟩] w fun e w' => e = .returned (.bool false) ∧ Below w.heap.size w w') ∧
    Hid ((primL F.data.toList).Pairwise (fun a b => (Op.bytesLess b a || b == a) = false)) ∧ Hid (∀ t ∈ primL F.data.toList, t.length ≤ maxLen) ∧
    Hid (totOk (primL F.data.toList) (n : Int) = true) ∧ Hid ((⟨(totL (primL F.data.toList) n).toArray⟩ : ByteArray) = F) := by
  obtain ⟨n, g, h1, h5, hg, rfl⟩ := tab_T F hb
  have hP : primL (T n g).data.toList = primS g n (2 ^ n) := by
    unfold primL
    rw [hb, lgN_T h1 h5, len_T, if_pos rfl]
    unfold primS
    apply List.filter_congr
    intro t htm
    have hi : ∀ t, impB (tv (T n g).data.toList) (2 ^ n) t = impB g (2 ^ n) t := fun t => bool_of_iff (by
      simp only [impB_iff]
      exact ⟨fun h s hs hh => by rw [← tv_T hg s hs]; exact h s hs hh, fun h s hs hh => by rw [tv_T hg s hs]; exact h s hs hh⟩)
    unfold l2P
    simp only [hi]
  have hlen := primL_len (T n g).data.toList
  rw [hP] at hlen ⊢
  have hpt : ∀ p ∈ primS g n (2 ^ n), isTerm p (n : Int) = true := fun p hp => by
    obtain ⟨hp1, hp2⟩ := prim_mem g n (2 ^ n) p hp
    unfold isTerm; rw [hp2]; simp; omega
  have fp : ∀ p ∈ primS g n (2 ^ n), (⟨p.toArray⟩ : ByteArray).size ≤ maxLen := fun p hp => by
    obtain ⟨hp1, hp2⟩ := prim_mem g n (2 ^ n) p hp
    show p.toArray.size ≤ maxLen; unfold maxLen; simp; omega
  refine ⟨n, h1, h5, hlen, fun w0 => tValidI w0 h1 h5 hg, fun w0 => tInputsI w0 h1 h5 hg, ?_, ?_, ?_, ?_, ?_, ?_⟩
  · intro p hp w
    refine (isImplicantI (T n g) ⟨p.toArray⟩ w (T_small n g h5) (fp p hp)).mono fun e w' ⟨he, hbl⟩ => ⟨?_, hbl⟩
    have : impV (T n g).data.toList p = true := by
      unfold impV
      rw [hb, lgN_T h1 h5, hpt p hp, len_T]
      simp only [Bool.true_and, impB_iff]
      intro s hs hh
      rw [tv_T hg s hs]
      exact impB_at g _ p (prime_imp g n _ p hp) s hs hh
    rw [he]
    show Ending.returned (.bool (impV (T n g).data.toList p)) = _
    rw [this]
  · intro p hp q hq hne w
    refine (isInsideI ⟨p.toArray⟩ ⟨q.toArray⟩ w (fp p hp) (fp q hq)).mono fun e w' ⟨he, hbl⟩ => ⟨?_, hbl⟩
    have : isInsideV p q = false := by
      unfold isInsideV
      rw [(prim_mem g n (2 ^ n) p hp).1, hpt p hp, hpt q hq]
      simp only [Bool.true_and]
      rw [Bool.eq_false_iff]
      intro hin
      exact hne (prime_alone g n (2 ^ n) p q hp hq hin).symm
    rw [he]
    show Ending.returned (.bool (isInsideV p q)) = _
    rw [this]
  · exact (allT_less n (by omega)).filter _
  · intro p hp
    have := fp p hp
    have e : (⟨p.toArray⟩ : ByteArray).size = p.length := by show p.toArray.size = _; simp
    rw [e] at this
    exact this
  · show _ = _
    unfold totOk
    rw [List.all_eq_true.2 hpt]
    simp; omega
  · show _ = _
    unfold totL T
    rw [txt_congr _ _ _ (fun s hs => prime_cover g n h5 hg s hs)]

theorem prim_no (l : List UInt8) (h : isTab l = false) : primL l = [] := by unfold primL; rw [h]; rfl
theorem nee_le (l : List UInt8) : (neeL l).length ≤ (primL l).length := neeK_len _ _


theorem leFalse (ps : List (List UInt8)) (h : ps.Pairwise (fun a b => (Op.bytesLess b a || b == a) = false)) (k : Nat) (t0 t : List UInt8) (h0 : ps[k]? = some t0) (h1 : ps[k + 1]? = some t) (P0 P1 : ByteArray) (e0 : P0 = ⟨t0.toArray⟩) (e1 : P1 = ⟨t.toArray⟩) :
    Op.bytesLess P1.toList P0.toList = false ∧ ¬ P1.toList = P0.toList := by
  subst e0; subst e1
  rw [ByteArray.toList_mk, ByteArray.toList_mk]
  obtain ⟨l0, g0⟩ := List.getElem?_eq_some_iff.1 h0
  obtain ⟨l1, g1⟩ := List.getElem?_eq_some_iff.1 h1
  have := List.pairwise_iff_getElem.1 h k (k + 1) l0 l1 (by omega)
  rw [g0, g1] at this
  simpa using this

theorem pairNe (ps : List (List UInt8)) (h : ps.Pairwise (fun a b => (Op.bytesLess b a || b == a) = false)) (k m : Nat) (t t2 : List UInt8) (h0 : ps[k]? = some t) (h1 : ps[m]? = some t2) (hne : k ≠ m) : t ≠ t2 := by
  obtain ⟨l0, g0⟩ := List.getElem?_eq_some_iff.1 h0
  obtain ⟨l1, g1⟩ := List.getElem?_eq_some_iff.1 h1
  rintro rfl
  rcases Nat.lt_or_gt_of_ne hne with hlt | hlt
  · have := List.pairwise_iff_getElem.1 h k m l0 l1 hlt
    rw [g0, g1] at this
    simp at this
  · have := List.pairwise_iff_getElem.1 h m k l1 l0 hlt
    rw [g0, g1] at this
    simp at this

end Go.Proofs.Ytnplaiolencgjaa
