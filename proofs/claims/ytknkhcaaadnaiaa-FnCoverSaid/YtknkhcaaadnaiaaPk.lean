/- Plain: a cover has all that is needed. -/
import Derived.Test.YtknkhcaaadnaiaaPj
namespace Go.Proofs.Ytknkhcaaadnaiaa
set_option linter.unusedVariables false
set_option linter.unusedSimpArgs false

theorem needB_iff (t : List UInt8) (o : List (List UInt8)) : needB t o = true ↔ ∃ s, s < 2 ^ t.length ∧ hasN t s = true ∧ ∀ u ∈ o, hasN u s = false := by
  unfold needB
  simp only [List.any_eq_true, List.mem_range, Bool.and_eq_true, Bool.not_eq_true', List.any_eq_false]
  constructor
  · rintro ⟨s, hs, h1, h2⟩
    exact ⟨s, hs, h1, fun u hu => by simpa using h2 u hu⟩
  · rintro ⟨s, hs, h1, h2⟩
    exact ⟨s, hs, h1, fun u hu => by simpa using h2 u hu⟩
theorem needB_anti (t : List UInt8) (o o' : List (List UInt8)) (h : ∀ u ∈ o', u ∈ o) (hn : needB t o = true) : needB t o' = true := by
  rw [needB_iff] at *
  obtain ⟨s, hs, h1, h2⟩ := hn
  exact ⟨s, hs, h1, fun u hu => h2 u (h u hu)⟩
theorem wout_get (l : List (List UInt8)) (j p : Nat) : (wout l j)[p]? = if p < j then l[p]? else l[p + 1]? := by
  unfold wout
  rw [List.getElem?_append]
  by_cases hj : j ≤ l.length
  · rw [List.length_take, Nat.min_eq_left hj]
    split
    · next h => rw [List.getElem?_take_of_lt h]
    · next h => rw [List.getElem?_drop]; congr 1; omega
  · have hl : l.drop (j + 1) = [] := List.drop_of_length_le (by omega)
    rw [List.length_take, Nat.min_eq_right (by omega), hl]
    by_cases hp : p < l.length
    · rw [if_pos hp, if_pos (by omega), List.getElem?_take_of_lt (by omega)]
    · rw [if_neg hp]
      split
      · rw [List.getElem?_eq_none (show l.length ≤ p by omega)]; simp
      · rw [List.getElem?_eq_none (show l.length ≤ p + 1 by omega)]; simp
theorem wout_iff (l : List (List UInt8)) (i : Nat) (u : List UInt8) : u ∈ wout l i ↔ ∃ j, j ≠ i ∧ l[j]? = some u := by
  rw [List.mem_iff_getElem?]
  constructor
  · rintro ⟨p, hp⟩
    rw [wout_get] at hp
    split at hp
    · exact ⟨p, by omega, hp⟩
    · exact ⟨p + 1, by omega, hp⟩
  · rintro ⟨j, hj, he⟩
    rcases Nat.lt_or_ge j i with h | h
    · exact ⟨j, by rw [wout_get, if_pos h]; exact he⟩
    · exact ⟨j - 1, by rw [wout_get, if_neg (by omega), show j - 1 + 1 = j by omega]; exact he⟩
theorem wout_wout (l : List (List UInt8)) (j i : Nat) (h : j ≤ i) : ∀ u ∈ wout (wout l j) i, u ∈ wout l (i + 1) := by
  intro u hu
  rw [wout_iff] at *
  obtain ⟨p, hp, he⟩ := hu
  rw [wout_get] at he
  split at he
  · exact ⟨p, by omega, he⟩
  · exact ⟨p + 1, by omega, he⟩
theorem nodup_inj {l : List (List UInt8)} (hd : l.Nodup) {p j : Nat} (hp : p < l.length) (hj : j < l.length) (h : l[p] = l[j]) : p = j := by
  rcases Nat.lt_trichotomy p j with h' | h' | h'
  · exact absurd h (List.pairwise_iff_getElem.1 hd p j hp hj h')
  · exact h'
  · exact absurd h.symm (List.pairwise_iff_getElem.1 hd j p hj hp h')
theorem wout_sub (l : List (List UInt8)) (i : Nat) : (wout l i).Sublist l := by
  unfold wout
  conv => rhs; rw [← List.take_append_drop i l]
  apply List.Sublist.append (List.Sublist.refl _)
  rw [← List.drop_drop (j := i) (i := 1)]
  exact List.drop_sublist _ _

/-- No term of the end can be left out. -/
def allNeeded (l : List (List UInt8)) (k : Nat) : Prop := ∀ i t, k ≤ i → l[i]? = some t → needB t (wout l i) = true
theorem covK_needed (k : Nat) : ∀ l : List (List UInt8), k ≤ l.length → allNeeded l k → allNeeded (covK l k) 0 := by
  induction k with
  | zero => intro l _ h; exact h
  | succ k ih =>
    intro l hk h
    have hkl : k < l.length := by omega
    rw [covK_succ l k l[k] (List.getElem?_eq_getElem hkl)]
    by_cases hn : needB l[k] (wout l k) = true
    · rw [if_pos hn]
      apply ih l (by omega)
      intro i t hi he
      rcases Nat.lt_or_ge k i with h' | h'
      · exact h i t (by omega) he
      · obtain rfl : i = k := by omega
        rw [List.getElem?_eq_getElem hkl] at he
        injection he with he
        rw [← he]; exact hn
    · rw [if_neg hn]
      apply ih (wout l k) (by rw [wout_length l k hkl]; omega)
      intro i t hi he
      rw [wout_get, if_neg (by omega)] at he
      exact needB_anti t _ _ (wout_wout l k i hi) (h (i + 1) t (by omega) he)
/-- What the terms have together stays. -/
theorem covK_any (n : Nat) (k : Nat) : ∀ l : List (List UInt8), k ≤ l.length → (∀ t ∈ l, t.length = n) → ∀ s, s < 2 ^ n → (covK l k).any (hasN · s) = l.any (hasN · s) := by
  induction k with
  | zero => intro l _ _ s _; rfl
  | succ k ih =>
    intro l hk hl s hs
    have hkl : k < l.length := by omega
    rw [covK_succ l k l[k] (List.getElem?_eq_getElem hkl)]
    by_cases hn : needB l[k] (wout l k) = true
    · rw [if_pos hn]; exact ih l (by omega) hl s hs
    · rw [if_neg hn, ih (wout l k) (by rw [wout_length l k hkl]; omega) (fun t ht => hl t (wout_mem l k t ht)) s hs]
      apply bool_of_iff
      rw [List.any_eq_true, List.any_eq_true]
      constructor
      · rintro ⟨t, ht, hh⟩; exact ⟨t, wout_mem l k t ht, hh⟩
      · rintro ⟨t, ht, hh⟩
        obtain ⟨j, hj⟩ := List.mem_iff_getElem?.1 ht
        by_cases e : j = k
        · subst e
          rw [List.getElem?_eq_getElem hkl] at hj
          injection hj with hj
          by_cases hex : ∃ u ∈ wout l j, hasN u s = true
          · exact hex
          · exfalso
            apply hn
            rw [needB_iff]
            refine ⟨s, by rw [hl l[j] (List.getElem_mem hkl)]; exact hs, by rw [hj]; exact hh, fun u hu => ?_⟩
            rw [Bool.eq_false_iff]
            intro hu2
            exact hex ⟨u, hu, hu2⟩
        · exact ⟨t, (wout_iff l k t).2 ⟨j, e, hj⟩, hh⟩
theorem covK_sub (k : Nat) : ∀ l : List (List UInt8), (covK l k).Sublist l := by
  induction k with
  | zero => intro l; exact List.Sublist.refl _
  | succ k ih =>
    intro l
    rcases Nat.lt_or_ge k l.length with h | h
    · rw [covK_succ l k l[k] (List.getElem?_eq_getElem h)]
      split
      · exact ih l
      · exact (ih _).trans (wout_sub l k)
    · unfold covK
      split
      · exact ih l
      · exact (ih _).trans (wout_sub l k)
/-- A term with a state of its own stays. -/
theorem covK_keep (t : List UInt8) (s : Nat) (hs : s < 2 ^ t.length) (hh : hasN t s = true) (k : Nat) : ∀ l : List (List UInt8), k ≤ l.length → l.Nodup → t ∈ l → (∀ u ∈ l, u ≠ t → hasN u s = false) → t ∈ covK l k := by
  induction k with
  | zero => intro l _ _ h _; exact h
  | succ k ih =>
    intro l hk hd ht ho
    have hkl : k < l.length := by omega
    rw [covK_succ l k l[k] (List.getElem?_eq_getElem hkl)]
    by_cases hn : needB l[k] (wout l k) = true
    · rw [if_pos hn]; exact ih l (by omega) hd ht ho
    · rw [if_neg hn]
      refine ih (wout l k) (by rw [wout_length l k hkl]; omega) (hd.sublist (wout_sub l k)) ?_ (fun u hu => ho u (wout_mem l k u hu))
      obtain ⟨j, hj⟩ := List.mem_iff_getElem?.1 ht
      by_cases e : j = k
      · exfalso
        subst e
        apply hn
        rw [List.getElem?_eq_getElem hkl] at hj
        injection hj with hj
        rw [needB_iff, hj]
        refine ⟨s, hs, hh, fun u hu => ho u (wout_mem l j u hu) ?_⟩
        rintro rfl
        obtain ⟨p, hp, he⟩ := (wout_iff l j u).1 hu
        apply hp
        have hpl : p < l.length := by
          rcases Nat.lt_or_ge p l.length with h | h
          · exact h
          · rw [List.getElem?_eq_none h] at he; cases he
        rw [List.getElem?_eq_getElem hpl] at he
        injection he with he
        exact nodup_inj hd hpl hkl (he.trans hj.symm)
      · exact (wout_iff l k t).2 ⟨j, e, hj⟩
theorem neeK_filter (l : List (List UInt8)) (k : Nat) (hk : k ≤ l.length) : (neeK l k).Sublist (l.take k) := by
  induction k with
  | zero => exact List.nil_sublist _
  | succ k ih =>
    have hkl : k < l.length := by omega
    rw [neeK_succ l k l[k] (List.getElem?_eq_getElem hkl), List.take_succ_eq_append_getElem hkl]
    apply List.Sublist.append (ih (by omega))
    split
    · exact List.Sublist.refl _
    · exact List.nil_sublist _
theorem neeK_mem (l : List (List UInt8)) (k : Nat) (t : List UInt8) (h : t ∈ neeK l k) : ∃ i, i < k ∧ t = l.getD i [] ∧ needB t (wout l i) = true := by
  unfold neeK at h
  rw [List.mem_filterMap] at h
  obtain ⟨i, hi, he⟩ := h
  rw [List.mem_range] at hi
  split at he
  · next hn => injection he with he; exact ⟨i, hi, he.symm, by rw [← he]; exact hn⟩
  · cases he
/-- In a list without twins, a part of it within a part of it is a part of that. -/
theorem sub_sub {l a b : List (List UInt8)} (hd : l.Nodup) (ha : a.Sublist l) (hb : b.Sublist l) (h : ∀ t ∈ a, t ∈ b) : a.Sublist b := by
  induction l generalizing a b with
  | nil => rw [List.sublist_nil] at ha hb; rw [ha]; exact List.nil_sublist _
  | cons x l ih =>
    rw [List.nodup_cons] at hd
    cases ha with
    | cons _ ha' =>
      cases hb with
      | cons _ hb' => exact ih hd.2 ha' hb' h
      | cons_cons _ hb' =>
        refine (ih hd.2 ha' hb' fun t ht => ?_).cons x
        rcases List.mem_cons.1 (h t ht) with e | e
        · exact absurd (e ▸ ha'.subset ht) hd.1
        · exact e
    | cons_cons _ ha' =>
      cases hb with
      | cons _ hb' => exact absurd (hb'.subset (h x (List.mem_cons_self ..))) hd.1
      | cons_cons _ hb' =>
        refine (ih hd.2 ha' hb' fun t ht => ?_).cons_cons x
        rcases List.mem_cons.1 (h t (List.mem_cons_of_mem _ ht)) with e | e
        · exact absurd (e ▸ ha'.subset ht) hd.1
        · exact e
theorem nee_cov (l : List (List UInt8)) (hd : l.Nodup) : (neeK l l.length).Sublist (covK l l.length) := by
  refine sub_sub hd ?_ (covK_sub _ l) ?_
  · have := neeK_filter l l.length (Nat.le_refl _)
    rwa [List.take_length] at this
  · intro t ht
    obtain ⟨i, hi, he, hn⟩ := neeK_mem l _ t ht
    obtain ⟨s, hs, h1, h2⟩ := (needB_iff t _).1 hn
    have hit : l[i]? = some t := by rw [he, List.getD_eq_getElem?_getD, List.getElem?_eq_getElem hi]; rfl
    refine covK_keep t s hs h1 l.length l (Nat.le_refl _) hd (List.mem_of_getElem? hit) fun u hu hne => h2 u ?_
    obtain ⟨j, hj⟩ := List.mem_iff_getElem?.1 hu
    refine (wout_iff l i u).2 ⟨j, ?_, hj⟩
    rintro rfl
    rw [hj] at hit
    injection hit with hit
    exact hne hit

end Go.Proofs.Ytknkhcaaadnaiaa
