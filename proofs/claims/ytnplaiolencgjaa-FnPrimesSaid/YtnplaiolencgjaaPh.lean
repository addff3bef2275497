/- Plain: the laws of tables. -/
import Derived.Test.YtnplaiolencgjaaPg
namespace Go.Proofs.Ytnplaiolencgjaa
set_option linter.unusedVariables false
set_option linter.unusedSimpArgs false

section
variable {n : Nat} {g h : Nat → Nat}

theorem pow32 (h5 : n ≤ 5) (s : Nat) (hs : s < 2 ^ n) : s < 32 := Nat.lt_of_lt_of_le hs (pow_le32 n h5)

theorem not_not_T (hg : ∀ s, g s ≤ 1) : T n (fun s => 1 - (1 - g s)) = T n g := T_congr _ _ _ fun s _ => by have := hg s; omega

theorem dual_and_T (hg : ∀ s, g s ≤ 1) (hh : ∀ s, h s ≤ 1) : T n (fun s => max (1 - g (2 ^ n - 1 - s)) (1 - h (2 ^ n - 1 - s))) = T n (fun s => 1 - g (2 ^ n - 1 - s) * h (2 ^ n - 1 - s)) := T_congr _ _ _ fun s _ => by
  rcases b01 (hg (2 ^ n - 1 - s)) with e | e <;> rcases b01 (hh (2 ^ n - 1 - s)) with e' | e' <;> simp only [e, e'] <;> rfl
theorem not_and_T (hg : ∀ s, g s ≤ 1) (hh : ∀ s, h s ≤ 1) : T n (fun s => max (1 - g s) (1 - h s)) = T n (fun s => 1 - g s * h s) := T_congr _ _ _ fun s _ => by
  rcases b01 (hg s) with e | e <;> rcases b01 (hh s) with e' | e' <;> simp only [e, e'] <;> rfl
theorem or_and_T (hg : ∀ s, g s ≤ 1) (hh : ∀ s, h s ≤ 1) : T n (fun s => max (g s) (g s * h s)) = T n g := T_congr _ _ _ fun s _ => by
  rcases b01 (hg s) with e | e <;> rcases b01 (hh s) with e' | e' <;> simp only [e, e'] <;> rfl
theorem dual_dual_T (hg : ∀ s, g s ≤ 1) : T n (fun s => 1 - (1 - g (2 ^ n - 1 - (2 ^ n - 1 - s)))) = T n g := T_congr _ _ _ fun s hs => by
  have := hg s
  rw [show 2 ^ n - 1 - (2 ^ n - 1 - s) = s by omega]; omega
theorem and_comm_T : T n (fun s => h s * g s) = T n (fun s => g s * h s) := T_congr _ _ _ fun s _ => Nat.mul_comm _ _

theorem hold_split_T (h5 : n ≤ 5) (i v : Nat) (hi : i < n) (hv : v ≤ 1) (x : Nat → Nat) (hx : ∀ s, s < 2 ^ n → x s = if bitN s i = v then 1 else 0) :
    T n (fun s => max (x s * g (holdN s i v)) ((1 - x s) * g (holdN s i (1 - v)))) = T n g := T_congr _ _ _ fun s hs => by
  have h32 := pow32 h5 s hs
  have hb := bitN_le s i
  rw [hx s hs]
  by_cases e : bitN s i = v
  · rw [if_pos e, hold_same s i v h32 (by omega) hv e]; simp
  · rw [if_neg e, hold_same s i (1 - v) h32 (by omega) (by omega) (by omega)]; simp
theorem hold_again_T (h5 : n ≤ 5) (i v : Nat) (hi : i < n) (hv : v ≤ 1) : T n (fun s => g (holdN (holdN s i (1 - v)) i v)) = T n (fun s => g (holdN s i v)) := T_congr _ _ _ fun s hs => by
  rw [hold_hold s i (1 - v) v (pow32 h5 s hs) (by omega) (by omega) hv]
theorem up_hold (h5 : n ≤ 5) (i v : Nat) (hi : i < n) (hv : v ≤ 1) : upB (fun s => g (holdN s i v)) (2 ^ n) i = false := by
  rw [Bool.eq_false_iff]; intro hh
  obtain ⟨s, hs, hl⟩ := (upB_iff _ _).1 hh
  have h32 := pow32 h5 s hs
  simp only [hold_hold s i 0 v h32 (by omega) (by omega) hv, hold_hold s i 1 v h32 (by omega) (by omega) hv] at hl
  omega
theorem dn_hold (h5 : n ≤ 5) (i v : Nat) (hi : i < n) (hv : v ≤ 1) : dnB (fun s => g (holdN s i v)) (2 ^ n) i = false := by
  rw [Bool.eq_false_iff]; intro hh
  obtain ⟨s, hs, hl⟩ := (dnB_iff _ _).1 hh
  have h32 := pow32 h5 s hs
  simp only [hold_hold s i 0 v h32 (by omega) (by omega) hv, hold_hold s i 1 v h32 (by omega) (by omega) hv] at hl
  omega
theorem sg_hold (h5 : n ≤ 5) (i v : Nat) (hi : i < n) (hv : v ≤ 1) : sgT n (fun s => g (holdN s i v)) i = ⟨#[48]⟩ := by
  unfold sgT; rw [up_hold h5 i v hi hv, dn_hold h5 i v hi hv]; rfl
theorem sgT_val (i : Nat) (u d : Bool) (hu : upB g (2 ^ n) i = u) (hd : dnB g (2 ^ n) i = d) : sgT n g i = ⟨#[sgB u d]⟩ := by unfold sgT; rw [hu, hd]
theorem sg_zero (i : Nat) : sgT n g i = ⟨#[48]⟩ ↔ upB g (2 ^ n) i = false ∧ dnB g (2 ^ n) i = false := by
  unfold sgT
  cases upB g (2 ^ n) i <;> cases dnB g (2 ^ n) i <;> simp [sgB]
theorem no_sign (i : Nat) : (upB g (2 ^ n) i = false ∧ dnB g (2 ^ n) i = false) ↔ ∀ s, s < 2 ^ n → g (holdN s i 0) = g (holdN s i 1) := by
  rw [Bool.eq_false_iff, Bool.eq_false_iff, Ne, Ne, upB_iff, dnB_iff]
  constructor
  · rintro ⟨h1, h2⟩ s hs
    rcases Nat.lt_trichotomy (g (holdN s i 0)) (g (holdN s i 1)) with hl | hl | hl
    · exact absurd ⟨s, hs, hl⟩ h1
    · exact hl
    · exact absurd ⟨s, hs, hl⟩ h2
  · intro hh
    refine ⟨?_, ?_⟩
    · rintro ⟨s, hs, hl⟩; have := hh s hs; omega
    · rintro ⟨s, hs, hl⟩; have := hh s hs; omega
theorem sg_zero_hold (hg : ∀ s, g s ≤ 1) (i v : Nat) (hv : v ≤ 1) : sgT n g i = ⟨#[48]⟩ ↔ T n (fun s => g (holdN s i v)) = T n (fun s => g (holdN s i (1 - v))) := by
  rw [sg_zero, no_sign, T_eq _ _ _ (fun s => hg _) (fun s => hg _)]
  rcases b01 hv with rfl | rfl
  · exact Iff.rfl
  · exact ⟨fun hh s hs => (hh s hs).symm, fun hh s hs => (hh s hs).symm⟩

theorem up_not (hg : ∀ s, g s ≤ 1) (m i : Nat) : upB (fun s => 1 - g s) m i = dnB g m i := bool_of_iff (by
  rw [upB_iff, dnB_iff]
  constructor
  · rintro ⟨s, hs, hl⟩; exact ⟨s, hs, by have := hg (holdN s i 0); have := hg (holdN s i 1); omega⟩
  · rintro ⟨s, hs, hl⟩; exact ⟨s, hs, by have := hg (holdN s i 0); have := hg (holdN s i 1); omega⟩)
theorem dn_not (hg : ∀ s, g s ≤ 1) (m i : Nat) : dnB (fun s => 1 - g s) m i = upB g m i := bool_of_iff (by
  rw [upB_iff, dnB_iff]
  constructor
  · rintro ⟨s, hs, hl⟩; exact ⟨s, hs, by have := hg (holdN s i 0); have := hg (holdN s i 1); omega⟩
  · rintro ⟨s, hs, hl⟩; exact ⟨s, hs, by have := hg (holdN s i 0); have := hg (holdN s i 1); omega⟩)
theorem flip_all : ∀ n < 6, ∀ s < 2 ^ n, ∀ i < n, ∀ v < 2, holdN (2 ^ n - 1 - s) i v = 2 ^ n - 1 - holdN s i (1 - v) := by decide +kernel
theorem flip_hold (h5 : n ≤ 5) (s i v : Nat) (hs : s < 2 ^ n) (hi : i < n) (hv : v ≤ 1) : 2 ^ n - 1 - holdN s i v = holdN (2 ^ n - 1 - s) i (1 - v) := by
  rw [flip_all n (by omega) s hs i hi (1 - v) (by omega), show 1 - (1 - v) = v by omega]
theorem up_dual (h5 : n ≤ 5) (hg : ∀ s, g s ≤ 1) (i : Nat) (hi : i < n) : upB (fun s => 1 - g (2 ^ n - 1 - s)) (2 ^ n) i = upB g (2 ^ n) i := bool_of_iff (by
  rw [upB_iff, upB_iff]
  constructor
  · rintro ⟨s, hs, hl⟩
    simp only [flip_hold h5 s i 0 hs hi (by omega), flip_hold h5 s i 1 hs hi (by omega)] at hl
    exact ⟨2 ^ n - 1 - s, by omega, by have := hg (holdN (2 ^ n - 1 - s) i 0); have := hg (holdN (2 ^ n - 1 - s) i 1); simp at hl; omega⟩
  · rintro ⟨s, hs, hl⟩
    have hs' : 2 ^ n - 1 - s < 2 ^ n := by omega
    refine ⟨2 ^ n - 1 - s, hs', ?_⟩
    simp only [flip_hold h5 _ i 0 hs' hi (by omega), flip_hold h5 _ i 1 hs' hi (by omega), show 2 ^ n - 1 - (2 ^ n - 1 - s) = s by omega]
    have := hg (holdN s i 0); have := hg (holdN s i 1); simp; omega)
theorem dn_dual (h5 : n ≤ 5) (hg : ∀ s, g s ≤ 1) (i : Nat) (hi : i < n) : dnB (fun s => 1 - g (2 ^ n - 1 - s)) (2 ^ n) i = dnB g (2 ^ n) i := bool_of_iff (by
  rw [dnB_iff, dnB_iff]
  constructor
  · rintro ⟨s, hs, hl⟩
    simp only [flip_hold h5 s i 0 hs hi (by omega), flip_hold h5 s i 1 hs hi (by omega)] at hl
    exact ⟨2 ^ n - 1 - s, by omega, by have := hg (holdN (2 ^ n - 1 - s) i 0); have := hg (holdN (2 ^ n - 1 - s) i 1); simp at hl; omega⟩
  · rintro ⟨s, hs, hl⟩
    have hs' : 2 ^ n - 1 - s < 2 ^ n := by omega
    refine ⟨2 ^ n - 1 - s, hs', ?_⟩
    simp only [flip_hold h5 _ i 0 hs' hi (by omega), flip_hold h5 _ i 1 hs' hi (by omega), show 2 ^ n - 1 - (2 ^ n - 1 - s) = s by omega]
    have := hg (holdN s i 0); have := hg (holdN s i 1); simp; omega)
theorem dn_or (h5 : n ≤ 5) (hg : ∀ s, g s ≤ 1) (i : Nat) (hi : i < n) : dnB (fun s => max (g s) (bitN s i)) (2 ^ n) i = false := by
  rw [Bool.eq_false_iff]; intro hh
  obtain ⟨s, hs, hl⟩ := (dnB_iff _ _).1 hh
  have h32 := pow32 h5 s hs
  simp only [hold_bit s i 1 i h32 (by omega) (by omega) (by omega), if_pos] at hl
  have := hg (holdN s i 0); have := bitN_le (holdN s i 0) i
  omega
theorem mat_mem (m i : Nat) (hi : i < n) : i ∈ matK g m n ↔ (upB g m i || dnB g m i) = true := by
  unfold matK matB
  rw [List.mem_filter, List.mem_range]
  exact ⟨fun h => h.2, fun h => ⟨hi, h⟩⟩
theorem mat_lt (m i : Nat) (h : i ∈ matK g m n) : i < n := by
  unfold matK at h
  rw [List.mem_filter, List.mem_range] at h
  exact h.1

theorem constB_iff (m : Nat) (h0 : 0 < m) : constB g m = true ↔ ∀ s, s < m → g s = g 0 := by
  constructor
  · intro h s hs
    by_cases e : g s = g 0
    · exact e
    · rw [constB_false g m s hs e] at h; cases h
  · exact constB_true g m
theorem const_T (hg : ∀ s, g s ≤ 1) (c : Nat) (hc : c ≤ 1) : T n g = T n (fun _ => c) ↔ constB g (2 ^ n) = true ∧ g 0 = c := by
  have hp : 0 < 2 ^ n := Nat.two_pow_pos n
  rw [T_eq _ _ _ hg (fun _ => hc), constB_iff _ hp]
  constructor
  · intro hh; exact ⟨fun s hs => (hh s hs).trans (hh 0 hp).symm, hh 0 hp⟩
  · rintro ⟨h1, h2⟩ s hs; exact (h1 s hs).trans h2
theorem const_not (hg : ∀ s, g s ≤ 1) (m : Nat) (h0 : 0 < m) : constB (fun s => 1 - g s) m = constB g m := bool_of_iff (by
  rw [constB_iff _ h0, constB_iff _ h0]
  constructor
  · intro hh s hs; have := hh s hs; have := hg s; have := hg 0; omega
  · intro hh s hs; have := hh s hs; omega)
theorem const_flip (m : Nat) (h0 : 0 < m) (x : Nat → Nat) (hx : ∀ s, s < m → x s = g (m - 1 - s)) : constB x m = constB g m := bool_of_iff (by
  rw [constB_iff _ h0, constB_iff _ h0]
  have hall : ∀ s, s < m → g s = x (m - 1 - s) := fun s hs => by rw [hx _ (by omega), show m - 1 - (m - 1 - s) = s by omega]
  constructor
  · intro hh s hs; rw [hall s hs, hall 0 h0, hh _ (by omega), hh (m - 1 - 0) (by omega)]
  · intro hh s hs; rw [hx s hs, hx 0 h0, hh _ (by omega), hh (m - 1 - 0) (by omega)])
end

end Go.Proofs.Ytnplaiolencgjaa
