/- Plain: pairs are counted input by input. -/
import Derived.Test.YtnplaiolencgjaaPh
namespace Go.Proofs.Ytnplaiolencgjaa
set_option linter.unusedVariables false
set_option linter.unusedSimpArgs false

/-- The sum of the first k values. -/
def sumN (f : Nat → Nat) : Nat → Nat
  | 0 => 0
  | k + 1 => sumN f k + f k
theorem sumN_congr (f f' : Nat → Nat) (k : Nat) (h : ∀ s, s < k → f s = f' s) : sumN f k = sumN f' k := by
  induction k with
  | zero => rfl
  | succ k ih => unfold sumN; rw [ih (fun s hs => h s (by omega)), h k (by omega)]
theorem sumN_add (f f' : Nat → Nat) (k : Nat) : sumN (fun s => f s + f' s) k = sumN f k + sumN f' k := by
  induction k with
  | zero => rfl
  | succ k ih => unfold sumN; rw [ih]; omega
theorem sumN_zero (k : Nat) : sumN (fun _ => 0) k = 0 := by
  induction k with
  | zero => rfl
  | succ k ih => unfold sumN; rw [ih]
theorem sumN_swap (f : Nat → Nat → Nat) (a b : Nat) : sumN (fun s => sumN (f s) b) a = sumN (fun i => sumN (fun s => f s i) a) b := by
  induction a with
  | zero => exact (sumN_zero b).symm
  | succ a ih =>
    rw [show sumN (fun s => sumN (f s) b) (a + 1) = sumN (fun s => sumN (f s) b) a + sumN (f a) b from rfl, ih, ← sumN_add]
    exact sumN_congr _ _ b fun i _ => rfl
theorem sumN_le (f : Nat → Nat) (c k : Nat) (h : ∀ s, f s ≤ c) : sumN f k ≤ k * c := by
  induction k with
  | zero => exact Nat.zero_le _
  | succ k ih => unfold sumN; have := h k; rw [Nat.succ_mul]; omega
theorem sumN_eq_zero (f : Nat → Nat) (k : Nat) : sumN f k = 0 ↔ ∀ s, s < k → f s = 0 := by
  induction k with
  | zero => exact ⟨fun _ s hs => absurd hs (by omega), fun _ => rfl⟩
  | succ k ih =>
    unfold sumN
    constructor
    · intro h s hs
      rcases Nat.lt_or_ge s k with h' | h'
      · exact ih.1 (by omega) s h'
      · obtain rfl : s = k := by omega
        omega
    · intro h
      rw [ih.2 (fun s hs => h s (by omega)), h k (by omega)]
theorem sumN_list (f : Nat → Nat) (k : Nat) : sumN f k = ((List.range k).map f).sum := by
  induction k with
  | zero => rfl
  | succ k ih => unfold sumN; rw [ih, List.range_succ, List.map_append, List.sum_append]; simp
theorem perm_sum {l l' : List Nat} (h : l.Perm l') : l.sum = l'.sum := by
  induction h with
  | nil => rfl
  | cons x _ ih => simp [ih]
  | swap x y l => simp; omega
  | trans _ _ ih1 ih2 => exact ih1.trans ih2

theorem clear_perm : ∀ n < 6, ∀ i < n, ((List.range (2 ^ n)).map (fun s => holdN s i 0)).Perm ((List.range (2 ^ n)).filter (fun s => bitN s i == 0) ++ (List.range (2 ^ n)).filter (fun s => bitN s i == 0)) := by decide +kernel
theorem flip_perm : ∀ n < 6, ((List.range (2 ^ n)).map (fun s => 2 ^ n - 1 - s)).Perm (List.range (2 ^ n)) := by decide +kernel
theorem sum_filter (p : Nat → Bool) (f : Nat → Nat) (l : List Nat) : ((l.filter p).map f).sum = (l.map fun s => if p s then f s else 0).sum := by
  induction l with
  | nil => rfl
  | cons x l ih =>
    rw [List.filter_cons]
    by_cases hx : p x = true
    · simp [hx, ih]
    · simp [hx, ih]

/-- Whether an input makes a difference at a state. -/
def dfB (g : Nat → Nat) (i s : Nat) : Nat := if g (holdN s i 0) ≠ g (holdN s i 1) then 1 else 0
def dfN (g : Nat → Nat) (i s : Nat) : Nat := if g s ≠ g (holdN s i 1) then 1 else 0
def snC (g : Nat → Nat) (s i : Nat) : Nat := if snB g s i then 1 else 0
theorem dfB_le (g : Nat → Nat) (i s : Nat) : dfB g i s ≤ 1 := by unfold dfB; split <;> omega
theorem snR_sum (g : Nat → Nat) (s k : Nat) : snR g s k = sumN (snC g s) k := by
  induction k with
  | zero => rfl
  | succ k ih => unfold snR sumN; rw [ih]; rfl
theorem snT_sum (g : Nat → Nat) (n k : Nat) : snT g n k = sumN (fun s => sumN (snC g s) n) k := by
  induction k with
  | zero => rfl
  | succ k ih => unfold snT sumN; rw [ih, snR_sum]

section
variable {n : Nat} {g : Nat → Nat}
theorem df_sum (h5 : n ≤ 5) (i : Nat) (hi : i < n) : sumN (dfB g i) (2 ^ n) = 2 * sumN (fun s => snC g s i) (2 ^ n) := by
  have e1 : sumN (dfB g i) (2 ^ n) = (((List.range (2 ^ n)).map (fun s => holdN s i 0)).map (dfN g i)).sum := by
    rw [sumN_list, List.map_map]
    congr 1
    apply List.map_congr_left
    intro s hs
    rw [List.mem_range] at hs
    simp only [Function.comp, dfB, dfN]
    rw [hold_hold s i 0 1 (pow32 h5 s hs) (by omega) (by omega) (by omega)]
  rw [e1, perm_sum ((clear_perm n (by omega) i hi).map (dfN g i)), List.map_append, List.sum_append, sum_filter, sumN_list]
  have e2 : ((List.range (2 ^ n)).map fun s => if (bitN s i == 0) = true then dfN g i s else 0) = (List.range (2 ^ n)).map fun s => snC g s i := by
    apply List.map_congr_left
    intro s hs
    unfold snC snB dfN
    cases (bitN s i == 0) <;> simp
  rw [e2]
  omega
/-- What the law adds up. -/
def unT (n : Nat) (g : Nat → Nat) (i : Nat) : Nat := sumN (dfB g i) (2 ^ n) / 2
theorem sn_un (h5 : n ≤ 5) : snT g n (2 ^ n) = sumN (unT n g) n := by
  rw [snT_sum, sumN_swap]
  apply sumN_congr
  intro i hi
  unfold unT
  rw [df_sum h5 i hi]
  omega
theorem sn_not (h5 : n ≤ 5) (hg : ∀ s, g s ≤ 1) : snT (fun s => 1 - g s) n (2 ^ n) = snT g n (2 ^ n) := by
  rw [sn_un h5, sn_un h5]
  apply sumN_congr
  intro i hi
  unfold unT
  congr 1
  apply sumN_congr
  intro s hs
  unfold dfB
  have := hg (holdN s i 0); have := hg (holdN s i 1)
  by_cases e : g (holdN s i 0) = g (holdN s i 1)
  · rw [if_neg (by simp [e]), if_neg (by simp [e])]
  · rw [if_pos (by simp; omega), if_pos e]
theorem sn_dual (h5 : n ≤ 5) (hg : ∀ s, g s ≤ 1) : snT (fun s => 1 - g (2 ^ n - 1 - s)) n (2 ^ n) = snT g n (2 ^ n) := by
  rw [sn_un h5, sn_un h5]
  apply sumN_congr
  intro i hi
  unfold unT
  congr 1
  have e1 : sumN (dfB (fun s => 1 - g (2 ^ n - 1 - s)) i) (2 ^ n) = (((List.range (2 ^ n)).map (fun s => 2 ^ n - 1 - s)).map (dfB g i)).sum := by
    rw [sumN_list, List.map_map]
    congr 1
    apply List.map_congr_left
    intro s hs
    rw [List.mem_range] at hs
    simp only [Function.comp, dfB]
    simp only [flip_hold h5 s i 0 hs hi (by omega), flip_hold h5 s i 1 hs hi (by omega)]
    have := hg (holdN (2 ^ n - 1 - s) i 0); have := hg (holdN (2 ^ n - 1 - s) i 1)
    by_cases e : g (holdN (2 ^ n - 1 - s) i 0) = g (holdN (2 ^ n - 1 - s) i 1)
    · rw [if_neg (by simp [e]), if_neg (by simp [e])]
    · rw [if_pos (by simp; omega), if_pos e]
  rw [e1, perm_sum ((flip_perm n (by omega)).map (dfB g i)), ← sumN_list]
def clrN (s k : Nat) : Nat := s / 2 ^ k * 2 ^ k
theorem clr_all : ∀ s < 32, ∀ k < 5, holdN (clrN s k) k 0 = clrN s (k + 1) ∧ clrN s k < 32 := by decide +kernel
theorem clr_lt_all : ∀ n < 6, ∀ s < 2 ^ n, ∀ k ≤ n, clrN s k < 2 ^ n := by decide +kernel
theorem clr_end : ∀ n < 6, ∀ s < 2 ^ n, clrN s n = 0 := by decide +kernel
theorem flat_const (h5 : n ≤ 5) (h : ∀ i, i < n → ∀ s, s < 2 ^ n → g (holdN s i 0) = g (holdN s i 1)) (s : Nat) (hs : s < 2 ^ n) : g s = g 0 := by
  have key : ∀ k, k ≤ n → g (clrN s k) = g s := by
    intro k
    induction k with
    | zero => intro _; unfold clrN; simp
    | succ k ih =>
      intro hk
      have h32 := pow32 h5 s hs
      obtain ⟨e1, e2⟩ := clr_all s h32 k (by omega)
      have hl := clr_lt_all n (by omega) s hs k (by omega)
      rw [← ih (by omega), ← e1]
      have hb := bitN_le (clrN s k) k
      rcases b01 hb with e | e
      · rw [hold_same _ k 0 e2 (by omega) (by omega) e]
      · rw [h k (by omega) _ hl, hold_same _ k 1 e2 (by omega) (by omega) e]
  rw [← key n (Nat.le_refl _), clr_end n (by omega) s hs]
theorem sn_zero (h5 : n ≤ 5) (hg : ∀ s, g s ≤ 1) : snT g n (2 ^ n) = 0 ↔ (T n g = T n (fun _ => 0) ∨ T n g = T n (fun _ => 1)) := by
  have hp : 0 < 2 ^ n := Nat.two_pow_pos n
  rw [sn_un h5, sumN_eq_zero]
  constructor
  · intro hh
    have hc : constB g (2 ^ n) = true := by
      rw [constB_iff _ hp]
      apply flat_const h5
      intro i hi s hs
      have h1 := hh i hi
      unfold unT at h1
      rw [df_sum h5 i hi] at h1
      have h2 : sumN (dfB g i) (2 ^ n) = 0 := by rw [df_sum h5 i hi]; omega
      have h3 := (sumN_eq_zero _ _).1 h2 s hs
      unfold dfB at h3
      by_cases e : g (holdN s i 0) = g (holdN s i 1)
      · exact e
      · rw [if_pos e] at h3; cases h3
    rcases b01 (hg 0) with e | e
    · exact .inl ((const_T hg 0 (by omega)).2 ⟨hc, e⟩)
    · exact .inr ((const_T hg 1 (by omega)).2 ⟨hc, e⟩)
  · intro hh i hi
    have hc : constB g (2 ^ n) = true := by
      rcases hh with h | h
      · exact ((const_T hg 0 (by omega)).1 h).1
      · exact ((const_T hg 1 (by omega)).1 h).1
    rw [constB_iff _ hp] at hc
    unfold unT
    rw [(sumN_eq_zero _ _).2]
    intro s hs
    unfold dfB
    rw [if_neg]
    rw [hc _ (hold_lt n s i 0 h5 hs hi (by omega)), hc _ (hold_lt n s i 1 h5 hs hi (by omega))]
    simp
end

end Go.Proofs.Ytnplaiolencgjaa
