/- Plain: the laws of terms. -/
import Derived.Test.YtnplaiolencgjaaPi
namespace Go.Proofs.Ytnplaiolencgjaa
set_option linter.unusedVariables false
set_option linter.unusedSimpArgs false

theorem hasN_iff (t : List UInt8) (s : Nat) : hasN t s = true ↔ ∀ i, i < t.length → t.getD i 0 = 42 ∨ (t.getD i 0).toNat - 48 = bitN s i := ⟨hasN_at t s, hasN_true t s⟩
theorem insideB_iff (t u : List UInt8) : insideB t u = true ↔ ∀ i, i < t.length → u.getD i 0 = 42 ∨ u.getD i 0 = t.getD i 0 := ⟨insideB_at t u, insideB_true t u⟩
theorem impB_iff (g : Nat → Nat) (m : Nat) (t : List UInt8) : impB g m t = true ↔ ∀ s, s < m → hasN t s = true → g s ≠ 0 := ⟨impB_at g m t, impB_true g m t⟩
theorem hasV_one (t : List UInt8) (s : Nat) : hasV t s = 1 ↔ hasN t s = true := by unfold hasV; split <;> simp_all
theorem hasV_zero (t : List UInt8) (s : Nat) : hasV t s = 0 ↔ hasN t s = false := by unfold hasV; split <;> simp_all
theorem anyV_one_iff (ts : List (List UInt8)) (s : Nat) : anyV ts s = 1 ↔ ∃ t ∈ ts, hasN t s = true := by
  unfold anyV
  rw [← List.any_eq_true]
  split <;> simp_all
theorem tb_getD (t : List UInt8) (h : t.all tb = true) (i : Nat) (hi : i < t.length) : t.getD i 0 = 42 ∨ t.getD i 0 = 48 ∨ t.getD i 0 = 49 := by
  rw [List.getD_eq_getElem?_getD, List.getElem?_eq_getElem hi]
  exact tb_cases _ (List.all_eq_true.1 h _ (List.getElem_mem hi))

/-- The state with given digits. -/
def bitsTo (b : Nat → Nat) : Nat → Nat
  | 0 => 0
  | k + 1 => bitsTo b k + b k * 2 ^ k
theorem bitsTo_lt (b : Nat → Nat) (hb : ∀ i, b i ≤ 1) (k : Nat) : bitsTo b k < 2 ^ k := by
  induction k with
  | zero => simp [bitsTo]
  | succ k ih =>
    unfold bitsTo
    have := Nat.mul_le_mul_right (2 ^ k) (hb k)
    rw [Nat.pow_succ]; omega
theorem bitN_bitsTo (b : Nat → Nat) (hb : ∀ i, b i ≤ 1) (k i : Nat) (hi : i < k) : bitN (bitsTo b k) i = b i := by
  induction k with
  | zero => omega
  | succ k ih =>
    unfold bitsTo
    rcases Nat.lt_or_ge i k with h | h
    · have e : b k * 2 ^ k = 2 ^ i * (2 * (b k * 2 ^ (k - i - 1))) := by
        rw [show 2 ^ k = 2 ^ i * (2 * 2 ^ (k - i - 1)) by rw [← Nat.pow_succ', ← Nat.pow_add]; congr 1; omega]
        simp only [Nat.mul_left_comm, Nat.mul_comm]
      rw [← ih h]
      unfold bitN
      rw [e, Nat.add_mul_div_left _ _ (Nat.two_pow_pos i)]
      omega
    · obtain rfl : i = k := by omega
      have := bitsTo_lt b hb i
      unfold bitN
      rw [Nat.mul_comm, Nat.add_mul_div_left _ _ (Nat.two_pow_pos i), Nat.div_eq_of_lt this]
      have := hb i
      omega

/-- A state of a term: what it leaves open is c. -/
def stateOf (t : List UInt8) (c : Nat) : Nat := bitsTo (fun i => if t.getD i 0 = 42 then c else min 1 ((t.getD i 0).toNat - 48)) t.length
theorem stateOf_spec (t : List UInt8) (c : Nat) (hc : c ≤ 1) (ht : t.all tb = true) : stateOf t c < 2 ^ t.length ∧ hasN t (stateOf t c) = true ∧ ∀ i, i < t.length → t.getD i 0 = 42 → bitN (stateOf t c) i = c := by
  have hb : ∀ i, (fun i => if t.getD i 0 = 42 then c else min 1 ((t.getD i 0).toNat - 48)) i ≤ 1 := by intro i; simp only []; split <;> omega
  refine ⟨bitsTo_lt _ hb _, ?_, ?_⟩
  · rw [hasN_iff]
    intro i hi
    by_cases e : t.getD i 0 = 42
    · exact .inl e
    · right
      unfold stateOf
      rw [bitN_bitsTo _ hb _ i hi]
      simp only [if_neg e]
      rcases tb_getD t ht i hi with h | h | h
      · exact absurd h e
      · rw [h]; decide
      · rw [h]; decide
  · intro i hi e
    unfold stateOf
    rw [bitN_bitsTo _ hb _ i hi]
    simp only [if_pos e]

theorem inside_iff (t u : List UInt8) (hl : u.length = t.length) (ht : t.all tb = true) (hu : u.all tb = true) : insideB t u = true ↔ ∀ s, s < 2 ^ t.length → hasN t s = true → hasN u s = true := by
  constructor
  · intro h s _ hs; exact inside_has t u s hl h hs
  · intro h
    rw [insideB_iff]
    intro i hi
    by_cases e : u.getD i 0 = 42
    · exact .inl e
    · right
      obtain ⟨a1, a2, a3⟩ := stateOf_spec t 0 (by omega) ht
      obtain ⟨c1, c2, c3⟩ := stateOf_spec t 1 (by omega) ht
      have h0 := ((hasN_iff u _).1 (h _ a1 a2) i (by omega)).resolve_left e
      have h1 := ((hasN_iff u _).1 (h _ c1 c2) i (by omega)).resolve_left e
      by_cases e' : t.getD i 0 = 42
      · rw [a3 i hi e'] at h0; rw [c3 i hi e'] at h1; omega
      · have h2 := ((hasN_iff t _).1 a2 i hi).resolve_left e'
        have hh : (u.getD i 0).toNat - 48 = (t.getD i 0).toNat - 48 := h0.trans h2.symm
        rcases tb_getD u hu i (by omega) with q | q | q
        · exact absurd q e
        · rcases tb_getD t ht i hi with q' | q' | q'
          · exact absurd q' e'
          · rw [q, q']
          · rw [q, q'] at hh; exact absurd hh (by decide)
        · rcases tb_getD t ht i hi with q' | q' | q'
          · exact absurd q' e'
          · rw [q, q'] at hh; exact absurd hh (by decide)
          · rw [q, q']
theorem inside_antisymm (t u : List UInt8) (hl : u.length = t.length) (h1 : insideB t u = true) (h2 : insideB u t = true) : t = u := by
  apply ext_getD _ _ hl.symm
  intro i hi
  rcases (insideB_iff t u).1 h1 i hi with e | e
  · rcases (insideB_iff u t).1 h2 i (by omega) with e' | e'
    · rw [e, e']
    · exact e'
  · exact e.symm
theorem inside_trans (t u v : List UInt8) (hl : u.length = t.length) (h1 : insideB t u = true) (h2 : insideB u v = true) : insideB t v = true := by
  rw [insideB_iff]
  intro i hi
  rcases (insideB_iff u v).1 h2 i (by omega) with e | e
  · exact .inl e
  · rcases (insideB_iff t u).1 h1 i hi with e' | e'
    · exact .inl (e.trans e')
    · exact .inr (e.trans e')
theorem inside_refl (t : List UInt8) : insideB t t = true := (insideB_iff t t).2 fun _ _ => .inr rfl
theorem inside_set (t : List UInt8) (i : Nat) (hi : i < t.length) : insideB t (t.set i 42) = true := by
  rw [insideB_iff]
  intro j hj
  rw [getD_set t i j 42 hi]
  by_cases e : j = i
  · left; rw [if_pos e]
  · right; rw [if_neg e]

/-- How many inputs a term leaves open. -/
def starN (t : List UInt8) : Nat := (t.filter (· == 42)).length
theorem star_all : ∀ n < 6, ∀ t ∈ allT n, sumN (hasV t) (2 ^ n) = 2 ^ starN t := by decide +kernel
theorem star_sum (t : List UInt8) (h5 : t.length ≤ 5) (ht : t.all tb = true) : sumN (hasV t) (2 ^ t.length) = 2 ^ starN t :=
  star_all t.length (by omega) t (allT_mem _ t rfl ht)

theorem star_set (t : List UInt8) (i : Nat) (hi : i < t.length) (h : t.getD i 0 ≠ 42) : starN t < starN (t.set i 42) := by
  unfold starN
  induction t generalizing i with
  | nil => simp at hi
  | cons x t ih =>
    cases i with
    | zero =>
      have hx : x ≠ 42 := by simpa using h
      simp [List.filter_cons, hx]
    | succ i =>
      have := ih i (by simpa using hi) (by simpa using h)
      simp only [List.set_cons_succ, List.filter_cons]
      split <;> simp <;> omega
theorem star_le (t : List UInt8) : starN t ≤ t.length := List.length_filter_le _ _
theorem set_tb (t : List UInt8) (i : Nat) (ht : t.all tb = true) : (t.set i 42).all tb = true := by
  rw [List.all_eq_true] at *
  intro x hx
  rcases List.mem_or_eq_of_mem_set hx with h | h
  · exact ht x h
  · rw [h]; rfl

/-- An implicant lies within a greatest one. -/
theorem prime_above (g : Nat → Nat) (n m : Nat) : ∀ (k : Nat) (t : List UInt8), n - starN t ≤ k → t.length = n → t.all tb = true → impB g m t = true → ∃ u ∈ primS g n m, insideB t u = true := by
  intro k
  induction k with
  | zero =>
    intro t hk hl ht hi
    refine ⟨t, List.mem_filter.2 ⟨allT_mem n t hl ht, l2P_true g m t hi fun i hil => ?_⟩, inside_refl t⟩
    by_cases e : t.getD i 0 = 42
    · exact .inl e
    · have h1 := star_set t i hil e
      have h2 := star_le (t.set i 42)
      rw [List.length_set] at h2
      omega
  | succ k ih =>
    intro t hk hl ht hi
    by_cases hp : ∀ i, i < t.length → t.getD i 0 = 42 ∨ impB g m (t.set i 42) = false
    · exact ⟨t, List.mem_filter.2 ⟨allT_mem n t hl ht, l2P_true g m t hi hp⟩, inside_refl t⟩
    · simp only [Classical.not_forall, not_or, Bool.not_eq_false] at hp
      obtain ⟨i, hil, h1, h2⟩ := hp
      have hs := star_set t i hil h1
      obtain ⟨u, hu, hin⟩ := ih (t.set i 42) (by omega) (by rw [List.length_set]; exact hl) (set_tb t i ht) h2
      exact ⟨u, hu, inside_trans t (t.set i 42) u (by rw [List.length_set]) (inside_set t i hil) hin⟩
theorem prime_imp (g : Nat → Nat) (n m : Nat) (t : List UInt8) (h : t ∈ primS g n m) : impB g m t = true := by
  have := (List.mem_filter.1 h).2
  unfold l2P at this
  simp only [Bool.and_eq_true] at this
  exact this.1
theorem imp_some (g : Nat → Nat) (n m : Nat) (t : List UInt8) (hl : t.length = n) (ht : t.all tb = true) : impB g m t = true ↔ ∃ u ∈ primS g n m, insideB t u = true := by
  constructor
  · exact prime_above g n m _ t (Nat.le_refl _) hl ht
  · rintro ⟨u, hu, hi⟩
    exact imp_inside g m t u (by rw [(prim_mem g n m u hu).1, hl]) hi (prime_imp g n m u hu)
theorem prime_alone (g : Nat → Nat) (n m : Nat) (t u : List UInt8) (ht : t ∈ primS g n m) (hu : u ∈ primS g n m) (hi : insideB t u = true) : u = t := by
  have h1 := List.mem_filter.1 ht
  have h2 := prim_one g n m t h1.1 (prime_imp g n m t ht)
  rw [h1.2] at h2
  unfold primB at h2
  simp only [Bool.not_eq_true', List.any_eq_false, Bool.and_eq_true, not_and, bne_iff_ne] at h2
  by_cases e : u = t
  · exact e
  · exact absurd hi (h2 u (List.mem_filter.2 ⟨(List.mem_filter.1 hu).1, prime_imp g n m u hu⟩) e)

theorem bits_inj : ∀ n < 6, ∀ s < 2 ^ n, ∀ r < 2 ^ n, (∀ i < n, bitN s i = bitN r i) → s = r := by decide +kernel
theorem zb_tb_all (l : List UInt8) (h : l.all zb = true) : l.all tb = true := by
  rw [zb_tb, Bool.and_eq_true] at h; exact h.1
theorem fsL_spec (s n : Nat) : (fsL s n).length = n ∧ (fsL s n).all zb = true := ⟨txt_length _ _, zb_txt _ _ (fun i _ => bitN_le s i)⟩
theorem fsL_getD (s n i : Nat) (hi : i < n) : ((fsL s n).getD i 0).toNat - 48 = bitN s i ∧ (fsL s n).getD i 0 ≠ 42 := by
  have e : (fsL s n).getD i 0 = UInt8.ofNat (48 + bitN s i) := by
    unfold fsL txt
    rw [List.getD_eq_getElem?_getD, List.getElem?_map, List.getElem?_range hi]; rfl
  rw [e]
  rcases b01 (bitN_le s i) with h | h <;> rw [h] <;> decide
theorem fsL_has (s n r : Nat) (h5 : n ≤ 5) (hs : s < 2 ^ n) (hr : r < 2 ^ n) : hasN (fsL s n) r = true ↔ r = s := by
  rw [hasN_iff, (fsL_spec s n).1]
  constructor
  · intro h
    apply bits_inj n (by omega) r hr s hs
    intro i hi
    have h1 := fsL_getD s n i hi
    exact ((h i hi).resolve_left h1.2).symm.trans h1.1
  · rintro rfl i hi
    exact .inr (fsL_getD r n i hi).1
/-- The greatest terms make the table. -/
theorem prime_cover (g : Nat → Nat) (n : Nat) (h5 : n ≤ 5) (hg : ∀ s, g s ≤ 1) (s : Nat) (hs : s < 2 ^ n) : anyV (primS g n (2 ^ n)) s = g s := by
  rcases b01 (hg s) with e | e
  · rw [e]
    have : anyV (primS g n (2 ^ n)) s ≠ 1 := by
      rw [Ne, anyV_one_iff]
      rintro ⟨t, ht, hh⟩
      exact impB_at g _ t (prime_imp g n _ t ht) s hs hh e
    have := anyV_le (primS g n (2 ^ n)) s
    omega
  · rw [e, anyV_one_iff]
    have hi : impB g (2 ^ n) (fsL s n) = true := by
      rw [impB_iff]
      intro r hr hh
      rw [(fsL_has s n r h5 hs hr).1 hh]; omega
    obtain ⟨u, hu, hin⟩ := prime_above g n (2 ^ n) _ (fsL s n) (Nat.le_refl _) (fsL_spec s n).1 (zb_tb_all _ (fsL_spec s n).2) hi
    refine ⟨u, hu, inside_has (fsL s n) u s (by rw [(prim_mem g n _ u hu).1, (fsL_spec s n).1]) hin ((fsL_has s n s h5 hs hs).2 rfl)⟩

/-- Texts ascend. -/
def asc (a b : List UInt8) : Prop := a.map UInt8.toNat < b.map UInt8.toNat
instance (a b : List UInt8) : Decidable (asc a b) := by unfold asc; infer_instance
theorem allT_asc : ∀ n < 6, (allT n).Pairwise asc := by decide +kernel
theorem prim_asc (g : Nat → Nat) (n m : Nat) (h5 : n ≤ 5) : (primS g n m).Pairwise asc := (allT_asc n (by omega)).filter _
theorem asc_ne (a b : List UInt8) (h : asc a b) : a ≠ b := by
  rintro rfl
  exact List.lt_irrefl _ h
theorem prim_nodup (g : Nat → Nat) (n m : Nat) (h5 : n ≤ 5) : (primS g n m).Nodup := (prim_asc g n m h5).imp fun {a b} h => asc_ne a b h

end Go.Proofs.Ytnplaiolencgjaa
