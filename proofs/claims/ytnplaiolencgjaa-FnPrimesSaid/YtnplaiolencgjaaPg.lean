/- Plain: tables as functions. -/
import Derived.Test.YtnplaiolencgjaaPe
namespace Go.Proofs.Ytnplaiolencgjaa
set_option linter.unusedVariables false
set_option linter.unusedSimpArgs false

theorem b01 {x : Nat} (h : x ≤ 1) : x = 0 ∨ x = 1 := by omega

/-- The text of a table of n inputs. -/
def T (n : Nat) (g : Nat → Nat) : ByteArray := ⟨(txt (2 ^ n) g).toArray⟩
theorem T_list (n : Nat) (g : Nat → Nat) : (T n g).data.toList = txt (2 ^ n) g := by simp [T]
theorem T_size (n : Nat) (g : Nat → Nat) : (T n g).size = 2 ^ n := by
  have : (T n g).data.toList.length = 2 ^ n := by rw [T_list, txt_length]
  exact this
theorem T_small (n : Nat) (g : Nat → Nat) (h5 : n ≤ 5) : (T n g).size ≤ maxLen := by
  rw [T_size]; have := pow_le32 n h5; unfold maxLen; omega
theorem T_congr (n : Nat) (g g' : Nat → Nat) (h : ∀ s, s < 2 ^ n → g s = g' s) : T n g = T n g' := by unfold T; rw [txt_congr _ _ _ h]
theorem txt_inj (m : Nat) (g g' : Nat → Nat) (hg : ∀ s, g s ≤ 1) (hg' : ∀ s, g' s ≤ 1) (h : txt m g = txt m g') : ∀ s, s < m → g s = g' s := by
  intro s hs
  rw [← tv_txt m g s hs (hg s), h, tv_txt m g' s hs (hg' s)]
theorem T_inj (n : Nat) (g g' : Nat → Nat) (hg : ∀ s, g s ≤ 1) (hg' : ∀ s, g' s ≤ 1) (h : T n g = T n g') : ∀ s, s < 2 ^ n → g s = g' s := by
  apply txt_inj _ _ _ hg hg'
  rw [← T_list, ← T_list, h]
theorem T_eq (n : Nat) (g g' : Nat → Nat) (hg : ∀ s, g s ≤ 1) (hg' : ∀ s, g' s ≤ 1) : T n g = T n g' ↔ ∀ s, s < 2 ^ n → g s = g' s := ⟨T_inj n g g' hg hg', T_congr n g g'⟩

theorem tab_txt (l : List UInt8) (h : l.all zb = true) : txt l.length (tv l) = l := by
  apply List.ext_getElem
  · simp [txt_length]
  · intro s h1 h2
    have hz : zb l[s] = true := List.all_eq_true.1 h _ (List.getElem_mem h2)
    simp only [txt, List.getElem_map, List.getElem_range, tv]
    rw [List.getD_eq_getElem?_getD, List.getElem?_eq_getElem h2]
    simp only [zb, Bool.or_eq_true, beq_iff_eq] at hz
    rcases hz with h | h <;> simp [h]

theorem tab_T (f : ByteArray) (h : isTab f.data.toList = true) : ∃ n g, 1 ≤ n ∧ n ≤ 5 ∧ (∀ s, g s ≤ 1) ∧ f = T n g := by
  obtain ⟨n, h1, h5, hn, hlg, hz, hv⟩ := rt_yes _ h
  refine ⟨n, tv f.data.toList, h1, h5, tv_le _ hz, ?_⟩
  unfold T
  rw [hn, tab_txt _ hz]

section
variable {n : Nat} {g : Nat → Nat}
theorem lgN_T (h1 : 1 ≤ n) (h5 : n ≤ 5) : lgN (T n g).data.toList.length = n := by rw [T_list, txt_length, lgN_pow n h1 h5]
theorem zb_T (hg : ∀ s, g s ≤ 1) : (T n g).data.toList.all zb = true := by rw [T_list]; exact zb_txt _ _ (fun s _ => hg s)
theorem isTab_T (h1 : 1 ≤ n) (h5 : n ≤ 5) (hg : ∀ s, g s ≤ 1) : isTab (T n g).data.toList = true := by
  unfold isTab; rw [lgN_T h1 h5, zb_T hg]; simp; omega
theorem tv_T (hg : ∀ s, g s ≤ 1) (s : Nat) (hs : s < 2 ^ n) : tv (T n g).data.toList s = g s := by rw [T_list]; exact tv_txt _ _ _ hs (hg s)
theorem len_T : (T n g).data.toList.length = 2 ^ n := by rw [T_list, txt_length]
theorem inpL_T (h1 : 1 ≤ n) (h5 : n ≤ 5) (hg : ∀ s, g s ≤ 1) : inpL (T n g).data.toList = (n : Int) := by
  rw [inpL_yes' _ (isTab_T h1 h5 hg), lgN_T h1 h5]
theorem valL_T (h1 : 1 ≤ n) (h5 : n ≤ 5) (hg : ∀ s, g s ≤ 1) (s : Nat) (hs : s < 2 ^ n) : valL (T n g).data.toList (s : Int) = (g s : Nat) := by
  rw [valL_yes _ _ (isTab_T h1 h5 hg) (by rw [len_T]; exact hs), tv_T hg s hs]
theorem valL_out (h1 : 1 ≤ n) (h5 : n ≤ 5) (hg : ∀ s, g s ≤ 1) (s : Int) (hs : ¬ (0 ≤ s ∧ s < ((2 ^ n : Nat) : Int))) : valL (T n g).data.toList s = -1 := by
  apply valL_no; right; rw [len_T]; exact hs
theorem notL_T (hg : ∀ s, g s ≤ 1) : notL (T n g).data.toList = txt (2 ^ n) (fun s => 1 - g s) := by
  unfold notL; rw [len_T]; exact txt_congr _ _ _ (fun s hs => by rw [tv_T hg s hs])
theorem dualL_T (hg : ∀ s, g s ≤ 1) : dualL (T n g).data.toList = txt (2 ^ n) (fun s => 1 - g (2 ^ n - 1 - s)) := by
  unfold dualL; rw [len_T]; exact txt_congr _ _ _ (fun s hs => by rw [tv_T hg _ (by omega)])
theorem andL_T {h : Nat → Nat} (hg : ∀ s, g s ≤ 1) (hh : ∀ s, h s ≤ 1) : andL (T n g).data.toList (T n h).data.toList = txt (2 ^ n) (fun s => g s * h s) := by
  unfold andL; rw [len_T]; exact txt_congr _ _ _ (fun s hs => by rw [tv_T hg s hs, tv_T hh s hs])
theorem orL_T {h : Nat → Nat} (hg : ∀ s, g s ≤ 1) (hh : ∀ s, h s ≤ 1) : orL (T n g).data.toList (T n h).data.toList = txt (2 ^ n) (fun s => max (g s) (h s)) := by
  unfold orL; rw [len_T]; exact txt_congr _ _ _ (fun s hs => by rw [tv_T hg s hs, tv_T hh s hs])
theorem bothOk_T {h : Nat → Nat} (h1 : 1 ≤ n) (h5 : n ≤ 5) (hg : ∀ s, g s ≤ 1) (hh : ∀ s, h s ≤ 1) : bothOk (T n g).data.toList (T n h).data.toList = true := by
  unfold bothOk; rw [isTab_T h1 h5 hg, isTab_T h1 h5 hh, len_T, len_T]; simp
theorem inOk_T (h1 : 1 ≤ n) (h5 : n ≤ 5) (hg : ∀ s, g s ≤ 1) (i : Nat) (hi : i < n) : inOk (T n g).data.toList (i : Int) = true := by
  unfold inOk; rw [isTab_T h1 h5 hg, lgN_T h1 h5]; simp; omega
theorem holdOk_T (h1 : 1 ≤ n) (h5 : n ≤ 5) (hg : ∀ s, g s ≤ 1) (i v : Nat) (hi : i < n) (hv : v ≤ 1) : holdOk (T n g).data.toList (i : Int) (v : Int) = true := by
  unfold holdOk valOk; rw [inOk_T h1 h5 hg i hi]; simp; omega
theorem holdL_T (h5 : n ≤ 5) (hg : ∀ s, g s ≤ 1) (i v : Nat) (hi : i < n) (hv : v ≤ 1) : holdL (T n g).data.toList i v = txt (2 ^ n) (fun s => g (holdN s i v)) := by
  unfold holdL; rw [len_T]; exact txt_congr _ _ _ (fun s hs => by rw [tv_T hg _ (hold_lt n s i v h5 hs hi hv)])
theorem upB_congr {g' : Nat → Nat} (h5 : n ≤ 5) (i : Nat) (hi : i < n) (h : ∀ s, s < 2 ^ n → g s = g' s) : upB g (2 ^ n) i = upB g' (2 ^ n) i := by
  unfold upB
  rw [Bool.eq_iff_iff]
  simp only [List.any_eq_true, List.mem_range, decide_eq_true_eq]
  constructor
  · rintro ⟨s, hs, hh⟩; refine ⟨s, hs, ?_⟩; rw [← h _ (hold_lt n s i 0 h5 hs hi (by omega)), ← h _ (hold_lt n s i 1 h5 hs hi (by omega))]; exact hh
  · rintro ⟨s, hs, hh⟩; refine ⟨s, hs, ?_⟩; rw [h _ (hold_lt n s i 0 h5 hs hi (by omega)), h _ (hold_lt n s i 1 h5 hs hi (by omega))]; exact hh
theorem dnB_congr {g' : Nat → Nat} (h5 : n ≤ 5) (i : Nat) (hi : i < n) (h : ∀ s, s < 2 ^ n → g s = g' s) : dnB g (2 ^ n) i = dnB g' (2 ^ n) i := by
  unfold dnB
  rw [Bool.eq_iff_iff]
  simp only [List.any_eq_true, List.mem_range, decide_eq_true_eq]
  constructor
  · rintro ⟨s, hs, hh⟩; refine ⟨s, hs, ?_⟩; rw [← h _ (hold_lt n s i 0 h5 hs hi (by omega)), ← h _ (hold_lt n s i 1 h5 hs hi (by omega))]; exact hh
  · rintro ⟨s, hs, hh⟩; refine ⟨s, hs, ?_⟩; rw [h _ (hold_lt n s i 0 h5 hs hi (by omega)), h _ (hold_lt n s i 1 h5 hs hi (by omega))]; exact hh
theorem upB_iff (m i : Nat) : upB g m i = true ↔ ∃ s, s < m ∧ g (holdN s i 0) < g (holdN s i 1) := by
  unfold upB; simp only [List.any_eq_true, List.mem_range, decide_eq_true_eq]
theorem dnB_iff (m i : Nat) : dnB g m i = true ↔ ∃ s, s < m ∧ g (holdN s i 1) < g (holdN s i 0) := by
  unfold dnB; simp only [List.any_eq_true, List.mem_range, decide_eq_true_eq]
theorem bool_of_iff {a b : Bool} (h : a = true ↔ b = true) : a = b := Bool.eq_iff_iff.2 h

/-- The sign of an input. -/
def sgT (n : Nat) (g : Nat → Nat) (i : Nat) : ByteArray := ⟨#[sgB (upB g (2 ^ n) i) (dnB g (2 ^ n) i)]⟩
theorem signL_T (h5 : n ≤ 5) (hg : ∀ s, g s ≤ 1) (i : Nat) (hi : i < n) : (⟨(signL (T n g).data.toList i).toArray⟩ : ByteArray) = sgT n g i := by
  unfold signL sgT
  rw [len_T, upB_congr h5 i hi (fun s hs => tv_T hg s hs), dnB_congr h5 i hi (fun s hs => tv_T hg s hs)]

theorem snR_congr {g' : Nat → Nat} (h5 : n ≤ 5) (s : Nat) (hs : s < 2 ^ n) (h : ∀ s, s < 2 ^ n → g s = g' s) : ∀ k, k ≤ n → snR g s k = snR g' s k := by
  intro k
  induction k with
  | zero => intro _; rfl
  | succ k ih =>
    intro hk
    unfold snR
    rw [ih (by omega)]
    unfold snB
    rw [h s hs, h _ (hold_lt n s k 1 h5 hs (by omega) (by omega))]
theorem snT_congr {g' : Nat → Nat} (h5 : n ≤ 5) (h : ∀ s, s < 2 ^ n → g s = g' s) : ∀ k, k ≤ 2 ^ n → snT g n k = snT g' n k := by
  intro k
  induction k with
  | zero => intro _; rfl
  | succ k ih =>
    intro hk
    unfold snT
    rw [ih (by omega), snR_congr h5 k (by omega) h n (Nat.le_refl _)]
theorem sensL_T (h1 : 1 ≤ n) (h5 : n ≤ 5) (hg : ∀ s, g s ≤ 1) : sensL (T n g).data.toList = ((snT g n (2 ^ n) : Nat) : Int) := by
  unfold sensL
  rw [isTab_T h1 h5 hg, lgN_T h1 h5, len_T, snT_congr h5 (fun s hs => tv_T hg s hs) _ (Nat.le_refl _)]
  rfl
theorem decL_T (h1 : 1 ≤ n) (h5 : n ≤ 5) (hg : ∀ s, g s ≤ 1) (i v : Nat) (hi : i < n) (hv : v ≤ 1) : decL (T n g).data.toList (i : Int) (v : Int) = if constB (fun s => g (holdN s i v)) (2 ^ n) then ((g (holdN 0 i v) : Nat) : Int) else -1 := by
  have hp : 0 < 2 ^ n := Nat.two_pow_pos n
  unfold decL
  rw [holdOk_T h1 h5 hg i v hi hv, if_pos rfl, len_T, Int.toNat_natCast, Int.toNat_natCast]
  rw [constB_congr (fun s => tv (T n g).data.toList (holdN s i v)) (fun s => g (holdN s i v)) (2 ^ n) hp (fun k hk => tv_T hg _ (hold_lt n k i v h5 hk hi hv)), tv_T hg _ (hold_lt n 0 i v h5 hp hi hv)]
theorem matL_T (h1 : 1 ≤ n) (h5 : n ≤ 5) (hg : ∀ s, g s ≤ 1) : matL (T n g).data.toList = matK g (2 ^ n) n := by
  unfold matL
  rw [isTab_T h1 h5 hg, lgN_T h1 h5, len_T, if_pos rfl]
  unfold matK
  apply List.filter_congr
  intro i hi
  rw [List.mem_range] at hi
  unfold matB
  rw [upB_congr h5 i hi (fun s hs => tv_T hg s hs), dnB_congr h5 i hi (fun s hs => tv_T hg s hs)]
end

end Go.Proofs.Ytnplaiolencgjaa
