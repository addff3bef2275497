/- Plain words: the bits of small numbers. -/
import Derived.Test.YtnplaiolencgjaaPa
import Derived.Laws.BitsAllLaws
import Derived.RowKit
namespace Go.Proofs.Ytnplaiolencgjaa
set_option linter.unusedVariables false
set_option linter.unusedSimpArgs false
open Go.RowKit

theorem bv64 (a : Nat) (ha : a < 9223372036854775808) : (BitVec.ofInt 64 (a : Int)).toNat = a := by
  rw [BitVec.ofInt_natCast, BitVec.toNat_ofNat]; exact Nat.mod_eq_of_lt (by omega)
theorem orN (a b : Nat) (ha : a < 9223372036854775808) (hb : b < 9223372036854775808) : bits .or .i64 (a : Int) (b : Int) = ((a ||| b : Nat) : Int) := by
  have hx : a ||| b < 2 ^ 63 := Nat.or_lt_two_pow (by omega) (by omega)
  show IntKind.i64.wrap ((BitVec.ofInt 64 (a : Int) ||| BitVec.ofInt 64 (b : Int)).toNat : Int) = _
  rw [BitVec.toNat_or, bv64 a ha, bv64 b hb, IntKind.wrap_i64]; omega
theorem andN (a b : Nat) (ha : a < 9223372036854775808) (hb : b < 9223372036854775808) : bits .and .i64 (a : Int) (b : Int) = ((a &&& b : Nat) : Int) := by
  have hx : a &&& b < 2 ^ 63 := Nat.and_lt_two_pow _ (by omega)
  show IntKind.i64.wrap ((BitVec.ofInt 64 (a : Int) &&& BitVec.ofInt 64 (b : Int)).toNat : Int) = _
  rw [BitVec.toNat_and, bv64 a ha, bv64 b hb, IntKind.wrap_i64]; omega
theorem xorN (a b : Nat) (ha : a < 9223372036854775808) (hb : b < 9223372036854775808) : bits .xor .i64 (a : Int) (b : Int) = ((a ^^^ b : Nat) : Int) := by
  have hx : a ^^^ b < 2 ^ 63 := Nat.xor_lt_two_pow (by omega) (by omega)
  show IntKind.i64.wrap ((BitVec.ofInt 64 (a : Int) ^^^ BitVec.ofInt 64 (b : Int)).toNat : Int) = _
  rw [BitVec.toNat_xor, bv64 a ha, bv64 b hb, IntKind.wrap_i64]; omega

theorem lt5 {k : Nat} (h : k < 5) : k = 0 ∨ k = 1 ∨ k = 2 ∨ k = 3 ∨ k = 4 := by omega

theorem shl_bit (b k : Nat) (hb : b ≤ 1) (hk : k < 5) : wrap64 ((b : Int) * 2 ^ k) = ((b <<< k : Nat) : Int) := by
  rcases lt5 hk with rfl | rfl | rfl | rfl | rfl <;> rcases (show b = 0 ∨ b = 1 by omega) with rfl | rfl <;> decide +kernel

theorem stN_lt (l : List UInt8) (k : Nat) (hk : k ≤ 5) (h : ∀ j, j < k → (l.getD j 48).toNat - 48 ≤ 1) : stN l k < 2 ^ k := by
  induction k with
  | zero => simp [stN]
  | succ k ih =>
    have h1 := ih (by omega) (fun j hj => h j (by omega))
    have h2 := h k (by omega)
    unfold stN
    refine Nat.or_lt_two_pow (Nat.lt_trans h1 (Nat.pow_lt_pow_succ (by omega))) ?_
    rw [Nat.shiftLeft_eq]
    have : ((l.getD k 48).toNat - 48) * 2 ^ k ≤ 1 * 2 ^ k := Nat.mul_le_mul_right _ h2
    have h4 : 2 ^ k < 2 ^ (k + 1) := Nat.pow_lt_pow_succ (by omega)
    omega

theorem zb_all_le (l : List UInt8) (h : l.all zb = true) (j : Nat) : (l.getD j 48).toNat - 48 ≤ 1 := by
  rw [List.getD_eq_getElem?_getD]
  rcases Nat.lt_or_ge j l.length with hj | hj
  · rw [List.getElem?_eq_getElem hj]
    have := (zb_iff _).1 (List.all_eq_true.1 h l[j] (List.getElem_mem hj))
    simp only [Option.getD_some]; omega
  · rw [List.getElem?_eq_none hj]; decide

theorem stN_take (l : List UInt8) (k : Nat) : ∀ m, m ≤ k → stN (l.take k) m = stN l m
  | 0, _ => rfl
  | m + 1, h => by
    unfold stN
    rw [stN_take l k m (by omega)]
    have : (l.take k).getD m 48 = l.getD m 48 := by
      rw [List.getD_eq_getElem?_getD, List.getD_eq_getElem?_getD, List.getElem?_take_of_lt (by omega)]
    rw [this]

theorem stN_step (l : List UInt8) (k : Nat) (c : UInt8) (hk : k < l.length) (hc : l[k] = c) (h5 : l.length ≤ 5) (h : l.all zb = true) :
    bits .or .i64 (stN l k : Int) (wrap64 (((c.toNat : Int) - 48) * 2 ^ k)) = (stN l (k + 1) : Nat) := by
  have hb := zb_all_le l h k
  have hlt := stN_lt l k (by omega) (fun j _ => zb_all_le l h j)
  have hg : l.getD k 48 = c := by rw [List.getD_eq_getElem?_getD, List.getElem?_eq_getElem hk]; exact hc
  have hz := (zb_iff _).1 (List.all_eq_true.1 h l[k] (List.getElem_mem hk))
  rw [hg] at hb
  rw [hc] at hz
  have e : ((c.toNat : Int) - 48) = ((c.toNat - 48 : Nat) : Int) := by omega
  have hp : (2 : Nat) ^ k ≤ 2 ^ 5 := Nat.pow_le_pow_right (by omega) (by omega)
  have hs : (c.toNat - 48) <<< k ≤ 2 ^ k := by
    rw [Nat.shiftLeft_eq]; exact Nat.le_trans (Nat.mul_le_mul_right _ hb) (by omega)
  rw [e, shl_bit _ _ hb (by omega), orN _ _ (by omega) (by omega)]
  show _ = ((stN l k ||| (((l.getD k 48).toNat - 48) <<< k) : Nat) : Int)
  rw [hg]

theorem stN_one (l : List UInt8) (k : Nat) (c : UInt8) (hk : k < l.length) (hc : l[k] = c) (h5 : l.length ≤ 5) (hz : zb c = true) (h : (l.take k).all zb = true) :
    bits .or .i64 (stN l k : Int) (wrap64 (((c.toNat : Int) - 48) * 2 ^ k)) = (stN l (k + 1) : Nat) := by
  have h1 := all_take_succ l zb k hk h (by rw [hc]; exact hz)
  have hl : (l.take (k + 1)).length = k + 1 := by rw [List.length_take]; omega
  have := stN_step (l.take (k + 1)) k c (by omega) (by rw [List.getElem_take]; exact hc) (by omega) h1
  rwa [stN_take l (k + 1) k (by omega), stN_take l (k + 1) (k + 1) (by omega)] at this

/-- A bit of a number. -/
def bitN (s i : Nat) : Nat := s / 2 ^ i % 2
theorem bitN_le (s i : Nat) : bitN s i ≤ 1 := by unfold bitN; omega
theorem bitN_shift (s i : Nat) : s >>> i &&& 1 = bitN s i := by
  rw [Nat.and_one_is_mod, Nat.shiftRight_eq_div_pow]; rfl
theorem bit_and (s i : Nat) (hs : s < 9223372036854775808) : bits .and .i64 ((s : Int) / 2 ^ i) 1 = (bitN s i : Nat) := by
  have e : (s : Int) / 2 ^ i = ((s / 2 ^ i : Nat) : Int) := by
    rw [Int.natCast_ediv]; simp
  have hle : s / 2 ^ i ≤ s := Nat.div_le_self _ _
  rw [e, show (1 : Int) = ((1 : Nat) : Int) from rfl, andN _ _ (by omega) (by omega), Nat.and_one_is_mod]
  rfl

/-- A text so many times. -/
def many (l : List UInt8) (k : Nat) : List UInt8 := (List.replicate k l).flatten
theorem many_zero (l : List UInt8) : many l 0 = [] := rfl
theorem many_succ (l : List UInt8) (k : Nat) : many l (k + 1) = l ++ many l k := by simp [many, List.replicate_succ]
theorem many_length (l : List UInt8) (k : Nat) : (many l k).length = k * l.length := by
  induction k with
  | zero => simp [many]
  | succ k ih => rw [many_succ, List.length_append, ih, Nat.succ_mul]; omega
theorem many_two (l : List UInt8) (k : Nat) : many l (2 * k) = many (l ++ l) k := by
  induction k with
  | zero => rfl
  | succ k ih => rw [show 2 * (k + 1) = 2 * k + 1 + 1 from by omega, many_succ, many_succ, many_succ, ih, List.append_assoc]
theorem many_odd (o l : List UInt8) (k : Nat) (h : k % 2 = 1) : (o ++ l) ++ many (l ++ l) (k / 2) = o ++ many l k := by
  rw [← many_two, show k = 2 * (k / 2) + 1 from by omega, show (2 * (k / 2) + 1) / 2 = k / 2 from by omega, many_succ, List.append_assoc]
theorem many_even (o l : List UInt8) (k : Nat) (h : k % 2 ≠ 1) : o ++ many (l ++ l) (k / 2) = o ++ many l k := by
  rw [← many_two, show 2 * (k / 2) = k from by omega]
theorem many_one (c : UInt8) (k : Nat) : many [c] k = List.replicate k c := by
  induction k with
  | zero => rfl
  | succ k ih => rw [many_succ, ih, List.replicate_succ]; rfl

theorem ba_cat (a b : List UInt8) : (⟨a.toArray⟩ : ByteArray) ++ ⟨b.toArray⟩ = ⟨(a ++ b).toArray⟩ := by apply ByteArray.ext; simp
theorem ba_list (a : ByteArray) : a = ⟨a.data.toList.toArray⟩ := by apply ByteArray.ext; simp

/-- What ParseState returns. -/
def psV (l : List UInt8) : Value := if isState l then .tuple #[.int .i64 (stN l l.length), .int .i64 l.length, .bool true] else .tuple #[.int .i64 0, .int .i64 0, .bool false]

end Go.Proofs.Ytnplaiolencgjaa
