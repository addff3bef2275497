/- Plain words: a switch of a state held, signs. -/
import Derived.Test.YtnplaiolencgjaaPc
namespace Go.Proofs.Ytnplaiolencgjaa
set_option linter.unusedVariables false
set_option linter.unusedSimpArgs false
open Go.RowKit

/-- A state in which switch i has the value v. -/
def holdN (s i v : Nat) : Nat := s / 2 ^ (i + 1) * 2 ^ (i + 1) + v * 2 ^ i + s % 2 ^ i

theorem hold_all : ∀ s : Nat, s < 32 → ∀ i : Nat, i < 5 → ∀ v : Nat, v < 2 → bits .or .i64 (bits .andNot .i64 (s : Int) (wrap64 (2 ^ i))) (wrap64 ((v : Int) * 2 ^ i)) = (holdN s i v : Nat) := by decide +kernel
theorem hold_one_all : ∀ s : Nat, s < 32 → ∀ i : Nat, i < 5 → bits .or .i64 (s : Int) (wrap64 (2 ^ i)) = (holdN s i 1 : Nat) := by decide +kernel
theorem hold_lt_all : ∀ n < 6, ∀ s < 2 ^ n, ∀ i < n, ∀ v < 2, holdN s i v < 2 ^ n := by decide +kernel
theorem hold_bit_all : ∀ s < 32, ∀ i < 5, ∀ v < 2, ∀ j < 5, bitN (holdN s i v) j = if j = i then v else bitN s j := by decide +kernel
theorem hold_same_all : ∀ s < 32, ∀ i < 5, ∀ v < 2, bitN s i = v → holdN s i v = s := by decide +kernel
theorem hold_hold_all : ∀ s < 32, ∀ i < 5, ∀ v < 2, ∀ u < 2, holdN (holdN s i v) i u = holdN s i u := by decide +kernel

theorem hold_bits (s i : Nat) (v : Int) (hs : s < 32) (hi : i < 5) (h0 : 0 ≤ v) (h1 : v ≤ 1) : bits .or .i64 (bits .andNot .i64 (s : Int) (wrap64 (2 ^ i))) (wrap64 (v * 2 ^ i)) = (holdN s i v.toNat : Nat) := by
  obtain ⟨v, rfl⟩ := Int.eq_ofNat_of_zero_le h0
  exact hold_all s hs i hi v (by omega)
theorem hold_lt (n s i v : Nat) (hn : n ≤ 5) (hs : s < 2 ^ n) (hi : i < n) (hv : v ≤ 1) : holdN s i v < 2 ^ n := hold_lt_all n (by omega) s hs i hi v (by omega)
theorem hold_bit (s i v j : Nat) (hs : s < 32) (hi : i < 5) (hv : v ≤ 1) (hj : j < 5) : bitN (holdN s i v) j = if j = i then v else bitN s j := hold_bit_all s hs i hi v (by omega) j hj
theorem hold_same (s i v : Nat) (hs : s < 32) (hi : i < 5) (hv : v ≤ 1) (h : bitN s i = v) : holdN s i v = s := hold_same_all s hs i hi v (by omega) h
theorem hold_hold (s i v u : Nat) (hs : s < 32) (hi : i < 5) (hv : v ≤ 1) (hu : u ≤ 1) : holdN (holdN s i v) i u = holdN s i u := hold_hold_all s hs i hi v (by omega) u (by omega)

def andL (l m : List UInt8) : List UInt8 := txt l.length (fun s => tv l s * tv m s)
def orL (l m : List UInt8) : List UInt8 := txt l.length (fun s => max (tv l s) (tv m s))
def bothOk (l m : List UInt8) : Bool := isTab l && (isTab m && decide (l.length = m.length))
def holdL (l : List UInt8) (i v : Nat) : List UInt8 := txt l.length (fun s => tv l (holdN s i v))
/-- A number is an input of a table. -/
def inOk (l : List UInt8) (i : Int) : Bool := isTab l && (decide (0 ≤ i) && decide (i ≤ (lgN l.length : Int) - 1))
def valOk (v : Int) : Bool := decide (0 ≤ v) && decide (v ≤ 1)
def holdOk (l : List UInt8) (i v : Int) : Bool := inOk l i && valOk v

theorem inOk_yes (l : List UInt8) (i : Int) (h : inOk l i = true) : ∃ n k : Nat, n ≤ 5 ∧ 2 ^ n = l.length ∧ k < n ∧ i = (k : Int) ∧ l.all zb = true := by
  unfold inOk at h
  simp only [Bool.and_eq_true, decide_eq_true_eq] at h
  obtain ⟨n, h1, h5, hn, hlg, hz, hv⟩ := rt_yes _ h.1
  obtain ⟨k, rfl⟩ := Int.eq_ofNat_of_zero_le h.2.1
  exact ⟨n, k, h5, hn, by omega, rfl, hz⟩
theorem and_u8 : ∀ a < 2, ∀ b < 2, bits .and .u8 ((a : Nat) : Int) ((b : Nat) : Int) = ((a * b : Nat) : Int) := by decide +kernel
theorem or_u8 : ∀ a < 2, ∀ b < 2, bits .or .u8 ((a : Nat) : Int) ((b : Nat) : Int) = ((max a b : Nat) : Int) := by decide +kernel

/-- Up, down: how an input acts. -/
def upB (g : Nat → Nat) (m i : Nat) : Bool := (List.range m).any fun s => decide (g (holdN s i 0) < g (holdN s i 1))
def dnB (g : Nat → Nat) (m i : Nat) : Bool := (List.range m).any fun s => decide (g (holdN s i 1) < g (holdN s i 0))
def upK (g : Nat → Nat) (k i : Nat) : Bool := (List.range k).any fun s => bitN s i == 0 && decide (g s < g (holdN s i 1))
def dnK (g : Nat → Nat) (k i : Nat) : Bool := (List.range k).any fun s => bitN s i == 0 && decide (g (holdN s i 1) < g s)
def sgN (up dn : Bool) : Nat := (if up then 1 else 0) + (if dn then 2 else 0)
def sgB (up dn : Bool) : UInt8 := if up && dn then 42 else if up then 43 else if dn then 45 else 48
theorem upB_succ (g : Nat → Nat) (k i : Nat) : upB g (k + 1) i = (upB g k i || decide (g (holdN k i 0) < g (holdN k i 1))) := by simp [upB, List.range_succ]
theorem dnB_succ (g : Nat → Nat) (k i : Nat) : dnB g (k + 1) i = (dnB g k i || decide (g (holdN k i 1) < g (holdN k i 0))) := by simp [dnB, List.range_succ]
theorem upK_succ (g : Nat → Nat) (k i : Nat) : upK g (k + 1) i = (upK g k i || (bitN k i == 0 && decide (g k < g (holdN k i 1)))) := by simp [upK, List.range_succ]
theorem dnK_succ (g : Nat → Nat) (k i : Nat) : dnK g (k + 1) i = (dnK g k i || (bitN k i == 0 && decide (g (holdN k i 1) < g k))) := by simp [dnK, List.range_succ]
theorem any_hold (n i : Nat) (p : Nat → Nat → Bool) (hn : n ≤ 5) (hi : i < n) :
    ((List.range (2 ^ n)).any fun s => bitN s i == 0 && p s (holdN s i 1)) = (List.range (2 ^ n)).any fun s => p (holdN s i 0) (holdN s i 1) := by
  have h32 := pow_le32 n hn
  rw [Bool.eq_iff_iff, List.any_eq_true, List.any_eq_true]
  constructor
  · rintro ⟨s, hs, h⟩
    rw [List.mem_range] at hs
    simp only [Bool.and_eq_true, beq_iff_eq] at h
    exact ⟨s, List.mem_range.2 hs, by rw [hold_same s i 0 (by omega) (by omega) (by omega) h.1]; exact h.2⟩
  · rintro ⟨s, hs, h⟩
    rw [List.mem_range] at hs
    refine ⟨holdN s i 0, List.mem_range.2 (hold_lt n s i 0 hn hs hi (by omega)), ?_⟩
    rw [hold_bit s i 0 i (by omega) (by omega) (by omega) (by omega), if_pos rfl, hold_hold s i 0 1 (by omega) (by omega) (by omega) (by omega)]
    simpa using h
theorem upK_all (g : Nat → Nat) (n i : Nat) (hn : n ≤ 5) (hi : i < n) : upK g (2 ^ n) i = upB g (2 ^ n) i := any_hold n i (fun a b => decide (g a < g b)) hn hi
theorem dnK_all (g : Nat → Nat) (n i : Nat) (hn : n ≤ 5) (hi : i < n) : dnK g (2 ^ n) i = dnB g (2 ^ n) i := any_hold n i (fun a b => decide (g b < g a)) hn hi
theorem sg_or1 (a b : Bool) : bits .or .i64 ((sgN a b : Nat) : Int) 1 = ((sgN true b : Nat) : Int) := by cases a <;> cases b <;> decide +kernel
theorem sg_or2 (a b : Bool) : bits .or .i64 ((sgN a b : Nat) : Int) 2 = ((sgN a true : Nat) : Int) := by cases a <;> cases b <;> decide +kernel
theorem sgN_le (a b : Bool) : sgN a b ≤ 3 := by cases a <;> cases b <;> decide
theorem sgN_zero (a b : Bool) : decide (0 < sgN a b) = (a || b) := by cases a <;> cases b <;> decide
theorem sg_text (a b : Bool) : (⟨#[48, 43, 45, 42]⟩ : ByteArray).extract (sgN a b) (sgN a b + 1) = ⟨#[sgB a b]⟩ := by cases a <;> cases b <;> decide +kernel
theorem sgB_zero (a b : Bool) : (sgB a b == 48) = !(a || b) := by cases a <;> cases b <;> decide
def signL (l : List UInt8) (i : Nat) : List UInt8 := [sgB (upB (tv l) l.length i) (dnB (tv l) l.length i)]

def constB (g : Nat → Nat) (m : Nat) : Bool := (List.range m).all fun s => g s == g 0
theorem tv_txt (m : Nat) (g : Nat → Nat) (s : Nat) (hs : s < m) (hg : g s ≤ 1) : tv (txt m g) s = g s := by
  unfold tv txt
  rw [List.getD_eq_getElem?_getD]
  simp [List.getElem?_range, hs]
  omega
theorem zb_txt (m : Nat) (g : Nat → Nat) (hg : ∀ s, s < m → g s ≤ 1) : (txt m g).all zb = true := by
  rw [List.all_eq_true]
  intro c hc
  unfold txt at hc
  simp only [List.mem_map, List.mem_range] at hc
  obtain ⟨s, hs, rfl⟩ := hc
  have := hg s hs
  obtain h | h : g s = 0 ∨ g s = 1 := by omega
  all_goals rw [h]; decide
theorem constB_false (g : Nat → Nat) (m k : Nat) (hk : k < m) (h : g k ≠ g 0) : constB g m = false := by
  unfold constB; rw [List.all_eq_false]; exact ⟨k, List.mem_range.2 hk, by simpa using h⟩
theorem constB_true (g : Nat → Nat) (m : Nat) (h : ∀ k, k < m → g k = g 0) : constB g m = true := by
  unfold constB; rw [List.all_eq_true]; intro k hk; simpa using h k (List.mem_range.1 hk)
theorem constB_congr (g g' : Nat → Nat) (m : Nat) (h0 : 0 < m) (h : ∀ k, k < m → g k = g' k) : constB g m = constB g' m := by
  unfold constB
  rw [Bool.eq_iff_iff, List.all_eq_true, List.all_eq_true]
  constructor
  · intro hh k hk; have := hh k hk; rw [h k (List.mem_range.1 hk), h 0 h0] at this; exact this
  · intro hh k hk; have := hh k hk; rw [← h k (List.mem_range.1 hk), ← h 0 h0] at this; exact this

/-- How many neighbours of the first k states differ, of state k those by the first j inputs. -/
def snB (g : Nat → Nat) (s i : Nat) : Bool := bitN s i == 0 && decide (g s ≠ g (holdN s i 1))
def snR (g : Nat → Nat) (s : Nat) : Nat → Nat
  | 0 => 0
  | i + 1 => snR g s i + if snB g s i then 1 else 0
def snT (g : Nat → Nat) (n : Nat) : Nat → Nat
  | 0 => 0
  | k + 1 => snT g n k + snR g k n
theorem snR_le (g : Nat → Nat) (s n : Nat) : snR g s n ≤ n := by
  induction n with
  | zero => exact Nat.le_refl _
  | succ n ih => unfold snR; split <;> omega
theorem snT_le (g : Nat → Nat) (n k : Nat) : snT g n k ≤ k * n := by
  induction k with
  | zero => simp [snT]
  | succ k ih => unfold snT; have := snR_le g k n; rw [Nat.succ_mul]; omega
def sensL (l : List UInt8) : Int := if isTab l then snT (tv l) (lgN l.length) l.length else -1

/-- The value that an input alone decides. -/
def decL (l : List UInt8) (i v : Int) : Int := if holdOk l i v then (if constB (fun s => tv l (holdN s i.toNat v.toNat)) l.length then tv l (holdN 0 i.toNat v.toNat) else -1) else -2
/-- What l1Constant returns. -/
def cnV (l : List UInt8) : Int := if constB (tv l) l.length then ((tv l 0 : Nat) : Int) else -1
theorem cnV_true (l : List UInt8) (h : constB (tv l) l.length = true) : cnV l = tv l 0 := by unfold cnV; rw [h]; rfl
theorem cnV_false (l : List UInt8) (h : constB (tv l) l.length = false) : cnV l = -1 := by unfold cnV; rw [h]; rfl
theorem decL_true (l : List UInt8) (i v : Int) (h : holdOk l i v = true) (hc : constB (fun s => tv l (holdN s i.toNat v.toNat)) l.length = true) : decL l i v = tv l (holdN 0 i.toNat v.toNat) := by
  unfold decL; rw [h, if_pos rfl, hc]; rfl
theorem decL_false (l : List UInt8) (i v : Int) (h : holdOk l i v = true) (hc : constB (fun s => tv l (holdN s i.toNat v.toNat)) l.length = false) : decL l i v = -1 := by
  unfold decL; rw [h, if_pos rfl, hc]; rfl
theorem decL_yes (l : List UInt8) (n k : Nat) (v : Int) (h1 : inOk l k = true) (h5 : n ≤ 5) (hn : 2 ^ n = l.length) (hk : k < n) (h0 : 0 ≤ v) (hv : v ≤ 1) (hz : l.all zb = true) :
    decL l k v = cnV (holdL l k v.toNat) := by
  have hp : 0 < l.length := by rw [← hn]; exact Nat.two_pow_pos n
  have ht : ∀ s, s < l.length → tv (holdL l k v.toNat) s = tv l (holdN s k v.toNat) := fun s hs => tv_txt _ _ _ hs (tv_le _ hz _)
  unfold decL cnV
  rw [show (holdL l k v.toNat).length = l.length by rw [holdL, txt_length]]
  rw [show holdOk l k v = true by unfold holdOk valOk; rw [h1]; simp; omega, if_pos rfl, Int.toNat_natCast, constB_congr _ _ _ hp ht, ht 0 hp]

/-- The inputs that matter. -/
def matB (g : Nat → Nat) (m i : Nat) : Bool := upB g m i || dnB g m i
def matK (g : Nat → Nat) (m k : Nat) : List Nat := (List.range k).filter fun i => matB g m i
theorem matK_succ (g : Nat → Nat) (m k : Nat) : matK g m (k + 1) = matK g m k ++ if matB g m k then [k] else [] := by
  unfold matK; rw [List.range_succ, List.filter_append]; congr 1
  by_cases h : matB g m k <;> simp [h]
theorem matK_len (g : Nat → Nat) (m k : Nat) : (matK g m k).length ≤ k := by
  unfold matK; have := List.length_filter_le (fun i => matB g m i) (List.range k); simpa using this
def matL (l : List UInt8) : List Nat := if isTab l then matK (tv l) l.length (lgN l.length) else []
theorem matL_len (l : List UInt8) : (matL l).length ≤ 65536 := by
  unfold matL
  split
  · next h =>
    obtain ⟨n, h1, h5, hn, hlg, hz, hv⟩ := rt_yes _ h
    have := matK_len (tv l) l.length (lgN l.length)
    omega
  · exact Nat.zero_le _
def natsV (zs : List Nat) : List Value := zs.map fun z => .int .i64 ((z : Nat) : Int)

end Go.Proofs.Ytnplaiolencgjaa
