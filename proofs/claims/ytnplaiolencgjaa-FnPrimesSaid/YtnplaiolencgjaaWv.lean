/- Walks: a list without an element; what is needed. -/
import Derived.Test.YtnplaiolencgjaaWp
import Derived.Test.YtnplaiolencgjaaWo2
import Derived.Deep.RegionLaw
namespace Go.Proofs.Ytnplaiolencgjaa
set_option linter.unusedVariables false
set_option linter.unusedSimpArgs false
open Go.RowKit

theorem texts_one (ts : List (List UInt8)) : ∀ u ∈ textsV ts, u.oneCell' = true := by
  intro u hu
  simp only [textsV, List.mem_map] at hu
  obtain ⟨t, _, rfl⟩ := hu
  rfl

theorem row_take {w : World} {b off c : Nat} {ts : List (List UInt8)} (h : Row w (.slice (some ⟨b, off, none⟩) ts.length c) (textsV ts)) (i : Nat) (hi : i ≤ ts.length) : Row w (.slice (some ⟨b, off, none⟩) i c) (textsV (ts.take i)) := by
  obtain ⟨A, c', hv, h1, h2, hc⟩ := h
  injection hv with e1 e2 e3
  subst e1 e3
  rw [textsV_length] at h1
  have hl : (textsV (ts.take i)).length = i := by rw [textsV_length, List.length_take]; omega
  refine ⟨_, c, by rw [hl], by omega, h2, fun hne => ?_⟩
  have hts : textsV ts ≠ [] := by
    intro e
    apply hne
    have : ts = [] := by simpa [textsV] using e
    rw [this]; simp [textsV]
  obtain ⟨b', off', e', hlt, hk⟩ := hc hts
  injection e' with e'
  injection e' with e1 e2 _
  subst e1 e2
  refine ⟨b, off, rfl, hlt, fun k u hu => hk k u ?_⟩
  have hki : k < i := by have := (List.getElem?_eq_some_iff.1 hu).1; omega
  rw [← hu]
  simp [textsV, List.getElem?_take_of_lt hki]

theorem row_drop {w : World} {b off c : Nat} {ts : List (List UInt8)} (h : Row w (.slice (some ⟨b, off, none⟩) ts.length c) (textsV ts)) (i : Nat) (hi : i < ts.length) : Src w (some ⟨b, off + (i + 1), none⟩) (textsV (ts.drop (i + 1))) := by
  obtain ⟨A, c', hv, h1, h2, hc⟩ := h
  injection hv with e1 e2 e3
  subst e1 e3
  intro hne
  have hts : textsV ts ≠ [] := by
    intro e
    have : ts = [] := by simpa [textsV] using e
    rw [this] at hi; simp at hi
  obtain ⟨b', off', e', hlt, hk⟩ := hc hts
  injection e' with e'
  injection e' with e1 e2 _
  subst e1 e2
  refine ⟨b, off + (i + 1), rfl, fun k u hu => ?_⟩
  rw [Nat.add_assoc]
  refine hk (i + 1 + k) u ?_
  rw [← hu]
  simp [textsV, List.getElem?_drop]

theorem clone_none (n c : Nat) (w : World) :
    Calls Try.prog 45 #[.slice none n c] w fun e w' => e = .returned (.slice none 0 0) ∧ w = w' := by
  have hq := fun (w : World) (a : Option Addr) (l c n' c' : Nat) => Lib.run_eql_slice_nil (P := Try.prog) w 24 9 a l c n' c' Try.underlying24
  go_enter Try.func45, Try.ntmps45
  go_wp2_with fail
  go_ret
  exact ⟨rfl, rfl⟩

theorem clone_some (ad : Addr) (n c : Nat) (ts : List (List UInt8)) (w : World) (hl : ts.length = n) (hn : n ≤ 60000) (hA : Src w (some ad) (textsV ts)) :
    Calls Try.prog 45 #[.slice (some ad) n c] w fun e w' => (∃ u, e = .returned u ∧ w'.ownsRow w.heap.size 9 1 u n (textsV ts)) ∧ Below w.heap.size w w' := by
  have hq := fun (w : World) (a : Option Addr) (l c n' c' : Nat) => Lib.run_eql_slice_nil (P := Try.prog) w 24 9 a l c n' c' Try.underlying24
  have HA := Lib.hid hA
  have HL := Lib.hid hl
  clear hA hl
  go_enter Try.func45, Try.ntmps45
  go_wp2_with (first
    | ((with_reducible refine wpList_empty 24 9 (.string ⟨#[]⟩) 16 Try.underlying24 infoS ?_); intro w1 hown1 hg1 hz1; (try simp only [Act.put, List.setIfInBounds_toArray, List.set_cons_succ, List.set_cons_zero, World.size_alloc, Nat.add_assoc, Nat.reduceAdd]))
    | ((with_reducible refine wpList_append_row _ _ _ 24 w.heap.size 9 (.string ⟨#[]⟩) 16 Try.underlying24 infoS rfl (.slice (some ⟨w.heap.size, 0, none⟩) 0 0) 0 [] (some ad) n c (textsV ts) ?_ ?_ hown1 (by rw [textsV_length]; exact HL.out) (HA.out.below ((Below.refl _ _).grown hg1 (Nat.le_refl _) (fun k hk => by cases hk))) (texts_one ts) (by omega) (by decide) (by omega) ?_); rfl; rfl; intro v2 w2 hown2 hg2 hat2 hbel2; (try simp only [Act.put, List.setIfInBounds_toArray, List.set_cons_succ, List.set_cons_zero, World.size_alloc, Nat.add_assoc, Nat.reduceAdd]))
    | fail)
  go_ret
  refine ⟨⟨_, rfl, by simpa using hown2⟩, ?_⟩
  exact ((Below.refl _ _).grown hg1 (Nat.le_refl _) (fun k hk => by cases hk)).trans hbel2

theorem cloneS (v : Value) (ts : List (List UInt8)) (w : World) (hn : ts.length ≤ 60000) (h : Row w v (textsV ts)) :
    Calls Try.prog 45 #[v] w fun e w' => (∃ u, e = .returned u ∧ w'.ownsRow w.heap.size 9 1 u ts.length (textsV ts)) ∧ Below w.heap.size w w' := by
  have h' := h
  obtain ⟨A, c, rfl, h1, h2, hc⟩ := h
  rw [textsV_length] at h1 ⊢
  rw [textsV_length] at h'
  rcases A with _ | ad
  · have he : ts = [] := by
      rcases Classical.em (ts = []) with h | h
      · exact h
      · obtain ⟨b, off, h', _⟩ := hc (by simpa [textsV] using h)
        cases h'
    subst he
    refine (clone_none _ c w).mono ?_
    rintro e w' ⟨rfl, rfl⟩
    exact ⟨⟨_, rfl, World.ownsRow_nil _ _ _ _⟩, Below.refl _ _⟩
  · exact clone_some ad ts.length c ts w rfl hn (Src.of_row h')

end Go.Proofs.Ytnplaiolencgjaa
