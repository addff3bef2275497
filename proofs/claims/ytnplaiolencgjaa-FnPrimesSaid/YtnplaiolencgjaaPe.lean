/- Plain words: the states of a term, implicants, tables of terms. -/
import Derived.Test.YtnplaiolencgjaaPd
namespace Go.Proofs.Ytnplaiolencgjaa
set_option linter.unusedVariables false
set_option linter.unusedSimpArgs false
open Go.RowKit

/-- A state is one of a term. -/
def hasN (t : List UInt8) (s : Nat) : Bool := (List.range t.length).all fun i => t.getD i 0 == 42 || decide ((t.getD i 0).toNat - 48 = bitN s i)
theorem hasN_false (t : List UInt8) (s k : Nat) (hk : k < t.length) (h1 : t.getD k 0 ≠ 42) (h2 : (t.getD k 0).toNat - 48 ≠ bitN s k) : hasN t s = false := by
  unfold hasN; rw [List.all_eq_false]
  exact ⟨k, List.mem_range.2 hk, by simp at h1 h2 ⊢; exact ⟨h1, h2⟩⟩
theorem hasN_true (t : List UInt8) (s : Nat) (h : ∀ i, i < t.length → t.getD i 0 = 42 ∨ (t.getD i 0).toNat - 48 = bitN s i) : hasN t s = true := by
  unfold hasN; rw [List.all_eq_true]
  intro i hi
  rcases h i (List.mem_range.1 hi) with h | h
  · rw [h]; rfl
  · rw [h]; simp
def hasV (t : List UInt8) (s : Nat) : Nat := if hasN t s then 1 else 0
theorem hasV_le (t : List UInt8) (s : Nat) : hasV t s ≤ 1 := by unfold hasV; split <;> omega
theorem tb_cases (c : UInt8) (h : tb c = true) : c = 42 ∨ c = 48 ∨ c = 49 := by
  unfold tb at h; simp only [Bool.or_eq_true, beq_iff_eq] at h; rcases h with (h | h) | h
  · exact .inl h
  · exact .inr (.inl h)
  · exact .inr (.inr h)
theorem tb_at (f : ByteArray) (k : Nat) (hk : k < f.size) (h : f.data.toList.all tb = true) : f[k] = 42 ∨ f[k] = 48 ∨ f[k] = 49 :=
  tb_cases _ (List.all_eq_true.1 h f[k] (List.getElem_mem (l := f.data.toList) (n := k) hk))

/-- A table is 1 for all states of a term. -/
def impB (g : Nat → Nat) (m : Nat) (t : List UInt8) : Bool := (List.range m).all fun s => !hasN t s || decide (g s ≠ 0)
theorem impB_false (g : Nat → Nat) (m : Nat) (t : List UInt8) (k : Nat) (hk : k < m) (h1 : hasN t k = true) (h2 : g k = 0) : impB g m t = false := by
  unfold impB; rw [List.all_eq_false]; exact ⟨k, List.mem_range.2 hk, by simp [h1, h2]⟩
theorem impB_true (g : Nat → Nat) (m : Nat) (t : List UInt8) (h : ∀ k, k < m → hasN t k = true → g k ≠ 0) : impB g m t = true := by
  unfold impB; rw [List.all_eq_true]
  intro k hk
  cases hh : hasN t k
  · rfl
  · simp; exact h k (List.mem_range.1 hk) hh
def impV (l t : List UInt8) : Bool := isTab l && (isTerm t (lgN l.length) && impB (tv l) l.length t)

def termL (t : List UInt8) : List UInt8 := txt (2 ^ t.length) (hasV t)
/-- The states of several terms. -/
def anyV (ts : List (List UInt8)) (s : Nat) : Nat := if ts.any (hasN · s) then 1 else 0
theorem anyV_le (ts : List (List UInt8)) (s : Nat) : anyV ts s ≤ 1 := by unfold anyV; split <;> omega
theorem anyV_nil (s : Nat) : anyV [] s = 0 := rfl
theorem anyV_snoc (ts : List (List UInt8)) (t : List UInt8) (s : Nat) : anyV (ts ++ [t]) s = max (anyV ts s) (hasV t s) := by
  unfold anyV hasV
  rw [List.any_append, List.any_cons, List.any_nil, Bool.or_false]
  cases ts.any (hasN · s) <;> cases hasN t s <;> rfl
def totOk (ts : List (List UInt8)) (n : Int) : Bool := (decide (1 ≤ n) && decide (n ≤ 5)) && ts.all (isTerm · n)
def totL (ts : List (List UInt8)) (n : Nat) : List UInt8 := txt (2 ^ n) (anyV ts)

/-- The digits of a number ahead of a text. -/
def mtF : Nat → Nat → List UInt8 → List UInt8
  | 0, _, acc => acc
  | f + 1, k, acc => if k = 0 then acc else mtF f (k / 10) (UInt8.ofNat (48 + k % 10) :: acc)
theorem mtF_zero (f : Nat) (acc : List UInt8) : mtF f 0 acc = acc := by cases f <;> simp [mtF]
theorem mtF_succ (f k : Nat) (acc : List UInt8) (h : 0 < k) : mtF (f + 1) k acc = mtF f (k / 10) (UInt8.ofNat (48 + k % 10) :: acc) := by
  rw [mtF, if_neg (by omega)]
/-- A mark. -/
def mtL (k : Nat) : List UInt8 := 109 :: mtF 6 k []
def marksS (n : Nat) : List (List UInt8) := (List.range n).map fun k => mtL (k + 1)
theorem marksS_get (n k : Nat) (h : k < n) : (marksS n)[k]? = some (mtL (k + 1)) := by simp [marksS, h]
theorem marksS_length (n : Nat) : (marksS n).length = n := by simp [marksS]

/-- Texts as values. -/
def textsV (ts : List (List UInt8)) : List Value := ts.map fun t => .string ⟨t.toArray⟩
theorem textsV_length (ts : List (List UInt8)) : (textsV ts).length = ts.length := by simp [textsV]
theorem textsV_get (ts : List (List UInt8)) (k : Nat) (t : List UInt8) (h : ts[k]? = some t) : (textsV ts)[k]? = some (.string ⟨t.toArray⟩) := by simp [textsV, h]
theorem any_take_succ {α : Type} (l : List α) (p : α → Bool) (k : Nat) (x : α) (h : l[k]? = some x) : (l.take (k + 1)).any p = ((l.take k).any p || p x) := by
  obtain ⟨hk, hx⟩ := List.getElem?_eq_some_iff.1 h
  rw [List.take_succ_eq_append_getElem hk, hx, List.any_append, List.any_cons, List.any_nil, Bool.or_false]
theorem any_of_at {α : Type} (l : List α) (p : α → Bool) (k : Nat) (x : α) (h : l[k]? = some x) (hp : p x = true) : l.any p = true := by
  rw [List.any_eq_true]; exact ⟨x, List.mem_of_getElem? h, hp⟩

/-- All terms of n inputs. -/
def ext3 (t : List UInt8) : List (List UInt8) := [t ++ [42], t ++ [48], t ++ [49]]
def allT : Nat → List (List UInt8)
  | 0 => [[]]
  | n + 1 => (allT n).flatMap ext3
theorem allT_length (n : Nat) : (allT n).length = 3 ^ n := by
  induction n with
  | zero => rfl
  | succ n ih =>
    have h : ∀ l : List (List UInt8), (l.flatMap ext3).length = 3 * l.length := by
      intro l
      induction l with
      | nil => rfl
      | cons a l ih => rw [List.flatMap_cons, List.length_append, ih]; simp [ext3]; omega
    show ((allT n).flatMap ext3).length = _
    rw [h, ih, Nat.pow_succ]; omega
theorem allT_le (n : Nat) (h : n ≤ 5) : (allT n).length ≤ 243 := by
  rw [allT_length]; exact Nat.pow_le_pow_right (n := 3) (by omega) h
theorem allT_terms (n : Nat) : ∀ t ∈ allT n, t.length = n ∧ t.all tb = true := by
  induction n with
  | zero => intro t ht; simp [allT] at ht; subst ht; exact ⟨rfl, rfl⟩
  | succ n ih =>
    intro t ht
    simp only [allT, List.mem_flatMap] at ht
    obtain ⟨u, hu, ht⟩ := ht
    obtain ⟨h1, h2⟩ := ih u hu
    simp only [ext3, List.mem_cons, List.not_mem_nil, or_false] at ht
    rcases ht with rfl | rfl | rfl
    all_goals exact ⟨by simp [h1], by rw [List.all_append, h2]; rfl⟩
theorem flat_take_succ (l : List (List UInt8)) (k : Nat) (t : List UInt8) (h : l[k]? = some t) : (l.take (k + 1)).flatMap ext3 = (l.take k).flatMap ext3 ++ ext3 t := by
  obtain ⟨hk, hx⟩ := List.getElem?_eq_some_iff.1 h
  rw [List.take_succ_eq_append_getElem hk, hx, List.flatMap_append]; simp
theorem flat_len (l : List (List UInt8)) (k : Nat) (h : k ≤ l.length) : ((l.take k).flatMap ext3).length = 3 * k := by
  induction k with
  | zero => rfl
  | succ k ih =>
    obtain ⟨t, ht⟩ : ∃ t, l[k]? = some t := ⟨_, List.getElem?_eq_getElem (by omega)⟩
    rw [flat_take_succ l k t ht, List.length_append, ih (by omega)]; simp [ext3]; omega

/-- The greatest terms of a table, as the reference has them. -/
def l2P (g : Nat → Nat) (m : Nat) (t : List UInt8) : Bool := impB g m t && (List.range t.length).all fun i => t.getD i 0 == 42 || !impB g m (t.set i 42)
theorem l2P_no (g : Nat → Nat) (m : Nat) (t : List UInt8) (h : impB g m t = false) : l2P g m t = false := by unfold l2P; rw [h]; rfl
theorem l2P_false (g : Nat → Nat) (m : Nat) (t : List UInt8) (k : Nat) (hk : k < t.length) (h1 : t.getD k 0 ≠ 42) (h2 : impB g m (t.set k 42) = true) : l2P g m t = false := by
  unfold l2P
  rw [show ((List.range t.length).all fun i => t.getD i 0 == 42 || !impB g m (t.set i 42)) = false by
    rw [List.all_eq_false]; exact ⟨k, List.mem_range.2 hk, by simp at h1 ⊢; exact ⟨h1, h2⟩⟩]
  simp
theorem l2P_true (g : Nat → Nat) (m : Nat) (t : List UInt8) (h : impB g m t = true) (hh : ∀ i, i < t.length → t.getD i 0 = 42 ∨ impB g m (t.set i 42) = false) : l2P g m t = true := by
  unfold l2P
  rw [h, Bool.true_and, List.all_eq_true]
  intro i hi
  rcases hh i (List.mem_range.1 hi) with h | h
  · rw [h]; rfl
  · rw [h]; simp
def primS (g : Nat → Nat) (n m : Nat) : List (List UInt8) := (allT n).filter (l2P g m)
/-- The greatest terms of a table, as the program has them. -/
def impAll (g : Nat → Nat) (n m : Nat) : List (List UInt8) := (allT n).filter (impB g m)
def primB (all : List (List UInt8)) (t : List UInt8) : Bool := !all.any fun u => (u != t) && insideB t u
def primI (g : Nat → Nat) (n m : Nat) : List (List UInt8) := (impAll g n m).filter (primB (impAll g n m))
theorem filter_take_succ {α : Type} (l : List α) (p : α → Bool) (k : Nat) (x : α) (h : l[k]? = some x) : (l.take (k + 1)).filter p = (l.take k).filter p ++ if p x then [x] else [] := by
  obtain ⟨hk, hx⟩ := List.getElem?_eq_some_iff.1 h
  rw [List.take_succ_eq_append_getElem hk, hx, List.filter_append]
  congr 1
  by_cases hp : p x <;> simp [hp]
theorem filter_take_len {α : Type} (l : List α) (p : α → Bool) (k : Nat) : ((l.take k).filter p).length ≤ l.length :=
  Nat.le_trans (List.length_filter_le _ _) (by rw [List.length_take]; omega)
theorem allT_mem (n : Nat) : ∀ t : List UInt8, t.length = n → t.all tb = true → t ∈ allT n := by
  induction n with
  | zero => intro t h _; simp [allT, List.eq_nil_of_length_eq_zero h]
  | succ n ih =>
    intro t hl ht
    have hne : t ≠ [] := by intro h; rw [h] at hl; simp at hl
    have e := List.dropLast_concat_getLast hne
    have hd : t.dropLast ∈ allT n := by
      refine ih _ (by rw [List.length_dropLast, hl]; rfl) ?_
      rw [← e, List.all_append] at ht
      simp only [Bool.and_eq_true] at ht
      exact ht.1
    have hc : tb (t.getLast hne) = true := List.all_eq_true.1 ht _ (List.getLast_mem hne)
    simp only [allT, List.mem_flatMap]
    refine ⟨t.dropLast, hd, ?_⟩
    rcases tb_cases _ hc with h | h | h
    · rw [h] at e; rw [← e]; simp [ext3]
    · rw [h] at e; rw [← e]; simp [ext3]
    · rw [h] at e; rw [← e]; simp [ext3]
theorem insideB_at (t u : List UInt8) (h : insideB t u = true) (i : Nat) (hi : i < t.length) : u.getD i 0 = 42 ∨ u.getD i 0 = t.getD i 0 := by
  unfold insideB at h
  have := List.all_eq_true.1 h i (List.mem_range.2 hi)
  simpa [Bool.or_eq_true, beq_iff_eq] using this
theorem hasN_at (t : List UInt8) (s : Nat) (h : hasN t s = true) (i : Nat) (hi : i < t.length) : t.getD i 0 = 42 ∨ (t.getD i 0).toNat - 48 = bitN s i := by
  unfold hasN at h
  have := List.all_eq_true.1 h i (List.mem_range.2 hi)
  simpa [Bool.or_eq_true, beq_iff_eq] using this
theorem inside_has (t u : List UInt8) (s : Nat) (hl : u.length = t.length) (hi : insideB t u = true) (hs : hasN t s = true) : hasN u s = true := by
  refine hasN_true u s fun i h => ?_
  rw [hl] at h
  rcases insideB_at t u hi i h with h1 | h1
  · exact .inl h1
  · rcases hasN_at t s hs i h with h2 | h2
    · exact .inl (h1.trans h2)
    · exact .inr (by rw [h1]; exact h2)
theorem impB_at (g : Nat → Nat) (m : Nat) (t : List UInt8) (h : impB g m t = true) (s : Nat) (hs : s < m) (hh : hasN t s = true) : g s ≠ 0 := by
  unfold impB at h
  have := List.all_eq_true.1 h s (List.mem_range.2 hs)
  rw [hh] at this
  simpa using this
theorem imp_inside (g : Nat → Nat) (m : Nat) (t u : List UInt8) (hl : u.length = t.length) (hi : insideB t u = true) (hu : impB g m u = true) : impB g m t = true :=
  impB_true g m t fun s hs hh => impB_at g m u hu s hs (inside_has t u s hl hi hh)
theorem getD_set (t : List UInt8) (i j : Nat) (c : UInt8) (hi : i < t.length) : (t.set i c).getD j 0 = if j = i then c else t.getD j 0 := by
  rw [List.getD_eq_getElem?_getD, List.getD_eq_getElem?_getD, List.getElem?_set]
  by_cases h : i = j
  · subst h; simp [hi]
  · rw [if_neg h, if_neg (fun e => h e.symm)]
theorem ext_getD (t u : List UInt8) (hl : t.length = u.length) (h : ∀ i, i < t.length → t.getD i 0 = u.getD i 0) : t = u := by
  apply List.ext_getElem hl
  intro i h1 h2
  have := h i h1
  rw [List.getD_eq_getElem?_getD, List.getD_eq_getElem?_getD, List.getElem?_eq_getElem h1, List.getElem?_eq_getElem h2] at this
  simpa using this
theorem prim_one (g : Nat → Nat) (n m : Nat) (t : List UInt8) (ht : t ∈ allT n) (hp : impB g m t = true) : primB (impAll g n m) t = l2P g m t := by
  obtain ⟨htl, htb⟩ := allT_terms n t ht
  rw [Bool.eq_iff_iff]
  constructor
  · intro h
    refine l2P_true g m t hp fun i hi => ?_
    by_cases h42 : t.getD i 0 = 42
    · exact .inl h42
    · refine .inr ?_
      cases hc : impB g m (t.set i 42)
      · rfl
      · exfalso
        have hmem : t.set i 42 ∈ impAll g n m := by
          unfold impAll
          rw [List.mem_filter]
          refine ⟨allT_mem n _ (by rw [List.length_set]; exact htl) ?_, hc⟩
          rw [List.all_eq_true]
          intro c hcm
          rcases List.mem_or_eq_of_mem_set hcm with h' | h'
          · exact List.all_eq_true.1 htb c h'
          · subst h'; decide
        unfold primB at h
        rw [Bool.not_eq_true', List.any_eq_false] at h
        refine h _ hmem ?_
        rw [Bool.and_eq_true, bne_iff_ne]
        refine ⟨fun e => h42 ?_, insideB_true _ _ fun j hj => ?_⟩
        · rw [← e, getD_set t i i 42 hi, if_pos rfl]
        · rw [getD_set t i j 42 hi]
          by_cases hji : j = i
          · rw [if_pos hji]; exact .inl rfl
          · rw [if_neg hji]; exact .inr rfl
  · intro h
    unfold primB
    rw [Bool.not_eq_true', List.any_eq_false]
    intro u hu hh
    rw [Bool.and_eq_true, bne_iff_ne] at hh
    obtain ⟨hne, hin⟩ := hh
    unfold impAll at hu
    rw [List.mem_filter] at hu
    obtain ⟨hul, _⟩ := allT_terms n u hu.1
    have hlen : u.length = t.length := by omega
    have hex : ∃ i, i < t.length ∧ u.getD i 0 ≠ t.getD i 0 := by
      apply Decidable.byContradiction
      intro hno
      refine hne (ext_getD u t hlen fun i hi => ?_)
      exact Decidable.byContradiction fun hx => hno ⟨i, by omega, hx⟩
    obtain ⟨i, hi, hd⟩ := hex
    have h42 : u.getD i 0 = 42 := (insideB_at t u hin i hi).resolve_right hd
    have ht42 : t.getD i 0 ≠ 42 := fun e => hd (h42.trans e.symm)
    have hset : impB g m (t.set i 42) = true := by
      refine imp_inside g m (t.set i 42) u (by rw [List.length_set]; exact hlen) (insideB_true _ _ fun j hj => ?_) hu.2
      rw [List.length_set] at hj
      rw [getD_set t i j 42 hi]
      by_cases hji : j = i
      · subst hji; exact .inl h42
      · rw [if_neg hji]; exact insideB_at t u hin j hj
    rw [l2P_false g m t i hi ht42 hset] at h
    cases h
theorem prim_eq (g : Nat → Nat) (n m : Nat) : primI g n m = primS g n m := by
  unfold primI primS
  rw [show impAll g n m = (allT n).filter (impB g m) from rfl, List.filter_filter]
  apply List.filter_congr
  intro t ht
  cases hp : impB g m t
  · rw [l2P_no g m t hp, Bool.and_false]
  · rw [Bool.and_true]; exact prim_one g n m t ht hp
def primL (l : List UInt8) : List (List UInt8) := if isTab l then primS (tv l) (lgN l.length) l.length else []

/-- A term has a state that none of others has. -/
def needB (t : List UInt8) (others : List (List UInt8)) : Bool := (List.range (2 ^ t.length)).any fun s => hasN t s && !others.any (hasN · s)
theorem needB_true (t : List UInt8) (others : List (List UInt8)) (k : Nat) (hk : k < 2 ^ t.length) (h1 : hasN t k = true) (h2 : others.any (hasN · k) = false) : needB t others = true := by
  unfold needB; rw [List.any_eq_true]; exact ⟨k, List.mem_range.2 hk, by rw [h1, h2]; rfl⟩
theorem needB_false (t : List UInt8) (others : List (List UInt8)) (h : ∀ k, k < 2 ^ t.length → hasN t k = true → others.any (hasN · k) = true) : needB t others = false := by
  unfold needB; rw [List.any_eq_false]
  intro k hk hh
  rw [Bool.and_eq_true] at hh
  rw [h k (List.mem_range.1 hk) hh.1] at hh
  simp at hh
/-- A list without an element. -/
def wout (l : List (List UInt8)) (i : Nat) : List (List UInt8) := l.take i ++ l.drop (i + 1)
theorem wout_length (l : List (List UInt8)) (i : Nat) (h : i < l.length) : (wout l i).length = l.length - 1 := by
  unfold wout; rw [List.length_append, List.length_take, List.length_drop]; omega
theorem wout_mem (l : List (List UInt8)) (i : Nat) (t : List UInt8) (h : t ∈ wout l i) : t ∈ l := by
  unfold wout at h
  rcases List.mem_append.1 h with h | h
  · exact List.mem_of_mem_take h
  · exact List.mem_of_mem_drop h
/-- What the reference asks: some term but one has a state. -/
theorem wout_any (l : List (List UInt8)) (i s : Nat) : (wout l i).any (hasN · s) = true ↔ ∃ j t, j ≠ i ∧ l[j]? = some t ∧ hasN t s = true := by
  unfold wout
  rw [List.any_append, Bool.or_eq_true, List.any_eq_true, List.any_eq_true]
  constructor
  · rintro (⟨t, ht, h⟩ | ⟨t, ht, h⟩)
    · obtain ⟨j, hj⟩ := List.mem_iff_getElem?.1 ht
      have hlt : j < i := by
        rcases Nat.lt_or_ge j i with h' | h'
        · exact h'
        · rw [List.getElem?_eq_none (by rw [List.length_take]; omega)] at hj; cases hj
      rw [List.getElem?_take_of_lt hlt] at hj
      exact ⟨j, t, by omega, hj, h⟩
    · obtain ⟨j, hj⟩ := List.mem_iff_getElem?.1 ht
      rw [List.getElem?_drop] at hj
      exact ⟨i + 1 + j, t, by omega, hj, h⟩
  · rintro ⟨j, t, hne, hj, h⟩
    rcases Nat.lt_or_ge j i with h' | h'
    · exact .inl ⟨t, List.mem_iff_getElem?.2 ⟨j, by rw [List.getElem?_take_of_lt h']; exact hj⟩, h⟩
    · exact .inr ⟨t, List.mem_iff_getElem?.2 ⟨j - (i + 1), by rw [List.getElem?_drop, show i + 1 + (j - (i + 1)) = j by omega]; exact hj⟩, h⟩
/-- The needed terms of a list. -/
def neeK (l : List (List UInt8)) (k : Nat) : List (List UInt8) := (List.range k).filterMap fun i => if needB (l.getD i []) (wout l i) then some (l.getD i []) else none
theorem neeK_succ (l : List (List UInt8)) (k : Nat) (t : List UInt8) (h : l[k]? = some t) : neeK l (k + 1) = neeK l k ++ if needB t (wout l k) then [t] else [] := by
  have e : l.getD k [] = t := by rw [List.getD_eq_getElem?_getD, h]; rfl
  unfold neeK
  rw [List.range_succ, List.filterMap_append, List.filterMap_cons, List.filterMap_nil, e]
  by_cases hn : needB t (wout l k) <;> simp [hn]
theorem neeK_len (l : List (List UInt8)) (k : Nat) : (neeK l k).length ≤ k := by
  unfold neeK; have := List.length_filterMap_le (fun i => if needB (l.getD i []) (wout l i) then some (l.getD i []) else none) (List.range k); simpa using this
/-- Terms are struck, from the last to the first. -/
def covK (l : List (List UInt8)) : Nat → List (List UInt8)
  | 0 => l
  | k + 1 => covK (if needB (l.getD k []) (wout l k) then l else wout l k) k
theorem covK_succ (l : List (List UInt8)) (k : Nat) (t : List UInt8) (h : l[k]? = some t) : covK l (k + 1) = covK (if needB t (wout l k) then l else wout l k) k := by
  have e : l.getD k [] = t := by rw [List.getD_eq_getElem?_getD, h]; rfl
  rw [covK, e]
theorem prim_mem (g : Nat → Nat) (n m : Nat) : ∀ t ∈ primS g n m, t.length = n ∧ t.all tb = true := fun t ht => allT_terms n t (List.mem_filter.1 ht).1
theorem prim_len (g : Nat → Nat) (n m : Nat) (h5 : n ≤ 5) : (primS g n m).length ≤ 243 := Nat.le_trans (List.length_filter_le _ _) (allT_le n h5)
theorem primL_mem (l : List UInt8) : ∀ t ∈ primL l, t.length = lgN l.length ∧ t.all tb = true := by
  unfold primL
  split
  · exact prim_mem _ _ _
  · intro t ht; cases ht
theorem primL_len (l : List UInt8) : (primL l).length ≤ 243 := by
  unfold primL
  split
  · next h =>
    obtain ⟨n, h1, h5, hn, hlg, hz, hv⟩ := rt_yes _ h
    exact prim_len _ _ _ (by omega)
  · exact Nat.zero_le _
def neeL (l : List UInt8) : List (List UInt8) := neeK (primL l) (primL l).length
def covL (l : List UInt8) : List (List UInt8) := covK (primL l) (primL l).length

end Go.Proofs.Ytnplaiolencgjaa
