/- Plain words: tables as cells, tables as texts. -/
import Derived.Test.YtnplaiolencgjaaPb
import Derived.Laws.Tables
import Derived.Laws.MakeOwn
import Derived.RowKit
import Derived.Below
namespace Go.Proofs.Ytnplaiolencgjaa
set_option linter.unusedVariables false
set_option linter.unusedSimpArgs false

/-- The cells of a table: the number of inputs, then 32 bytes. -/
def tcells (n : Nat) (g : Nat → Nat) : Array Value := (Value.int .i64 (n : Int) :: (List.range 32).map fun s => Value.int .u8 ((g s : Nat) : Int)).toArray

theorem tcells_size (n : Nat) (g : Nat → Nat) : (tcells n g).size = 33 := by simp [tcells]
theorem tcells_zero (n : Nat) (g : Nat → Nat) : (tcells n g)[0]? = some (.int .i64 (n : Int)) := by simp [tcells]
theorem tcells_succ (n : Nat) (g : Nat → Nat) (s : Nat) (h : s < 32) : (tcells n g)[1 + s]? = some (.int .u8 ((g s : Nat) : Int)) := by
  rw [Nat.add_comm]; simp [tcells, List.getElem?_range, h]
theorem tcells_succ' (n : Nat) (g : Nat → Nat) (s : Nat) (h : s < 32) : (tcells n g)[s + 1]? = some (.int .u8 ((g s : Nat) : Int)) := by
  simp [tcells, List.getElem?_range, h]
theorem tcells_one (n : Nat) (g : Nat → Nat) : (tcells n g).all (·.oneCell') = true := by
  rw [Array.all_eq_true_iff_forall_mem]
  intro v hv
  simp [tcells] at hv
  rcases hv with rfl | ⟨s, _, rfl⟩ <;> rfl
theorem tcells_congr (n : Nat) (g g' : Nat → Nat) (h : ∀ s, s < 32 → g s = g' s) : tcells n g = tcells n g' := by
  unfold tcells
  congr 2
  apply List.map_congr_left
  intro s hs
  rw [h s (List.mem_range.1 hs)]
theorem tcells_set (n : Nat) (g : Nat → Nat) (k b : Nat) (hk : k < 32) :
    (tcells n g).setIfInBounds (1 + k) (.int .u8 (b : Int)) = tcells n (fun s => if s = k then b else g s) := by
  apply Array.ext_getElem?
  intro i
  rw [Array.getElem?_setIfInBounds]
  rcases Nat.lt_or_ge i 33 with hi | hi
  · rcases i with _ | s
    · rw [if_neg (by omega), tcells_zero, tcells_zero]
    · rw [tcells_succ' n (fun s => if s = k then b else g s) s (by omega)]
      by_cases hs : s = k
      · subst hs
        rw [if_pos (by omega), if_pos (by rw [tcells_size]; omega)]; simp
      · rw [if_neg (by omega), tcells_succ' _ _ _ (by omega)]; simp [hs]
  · rw [if_neg (by omega), Array.getElem?_eq_none (by rw [tcells_size]; omega), Array.getElem?_eq_none (by rw [tcells_size]; omega)]

/-- The first k values, and nothing behind them. -/
def upto (k : Nat) (g : Nat → Nat) : Nat → Nat := fun s => if s < k then g s else 0
theorem upto_zero (g : Nat → Nat) : upto 0 g = fun _ => 0 := by funext s; simp [upto]
theorem upto_succ (k : Nat) (g : Nat → Nat) : upto (k + 1) g = fun s => if s = k then g k else upto k g s := by
  funext s
  unfold upto
  by_cases h : s = k
  · subst h; simp
  · rw [if_neg h]
    by_cases h2 : s < k
    · rw [if_pos (by omega), if_pos h2]
    · rw [if_neg (by omega), if_neg h2]
theorem upto_lt (k : Nat) (g : Nat → Nat) (s : Nat) (h : s < k) : upto k g s = g s := by simp [upto, h]

/-- The text of a table's values. -/
def txt (m : Nat) (g : Nat → Nat) : List UInt8 := (List.range m).map fun s => UInt8.ofNat (48 + g s)
theorem txt_length (m : Nat) (g : Nat → Nat) : (txt m g).length = m := by simp [txt]
theorem txt_succ (m : Nat) (g : Nat → Nat) : txt (m + 1) g = txt m g ++ [UInt8.ofNat (48 + g m)] := by simp [txt, List.range_succ]
theorem txt_congr (m : Nat) (g g' : Nat → Nat) (h : ∀ s, s < m → g s = g' s) : txt m g = txt m g' := by
  unfold txt; apply List.map_congr_left; intro s hs; rw [h s (List.mem_range.1 hs)]

theorem txt_upto (m : Nat) (g : Nat → Nat) : txt m (upto m g) = txt m g := txt_congr _ _ _ (fun s hs => upto_lt _ _ _ hs)
/-- Digits as bytes. -/
def digs (zs : List Nat) : List UInt8 := zs.map fun z => UInt8.ofNat (48 + z)
theorem digs_length (zs : List Nat) : (digs zs).length = zs.length := by simp [digs]
theorem digs_txt (m : Nat) (g : Nat → Nat) : digs ((List.range m).map g) = txt m g := by simp [digs, txt]
theorem digs_succ (zs : List Nat) (k z : Nat) (h : zs[k]? = some z) : digs (zs.take (k + 1)) = digs (zs.take k) ++ [UInt8.ofNat (48 + z)] := by
  obtain ⟨hk, hz⟩ := List.getElem?_eq_some_iff.1 h
  rw [List.take_succ_eq_append_getElem hk, hz]; simp [digs]

/-- The first k numbers, as values. -/
def intsV (g : Nat → Nat) (k : Nat) : List Value := ((List.range k).map g).map fun z => .int .i64 ((z : Nat) : Int)
theorem intsV_zero (g : Nat → Nat) : intsV g 0 = [] := rfl
theorem intsV_succ (g : Nat → Nat) (k : Nat) : intsV g (k + 1) = intsV g k ++ [.int .i64 ((g k : Nat) : Int)] := by simp [intsV, List.range_succ]
theorem range01 (g : Nat → Nat) (k : Nat) (h : ∀ s, s < k → g s ≤ 1) : ∀ z ∈ (List.range k).map g, z ≤ 1 := by
  intro z hz; simp at hz; obtain ⟨s, hs, rfl⟩ := hz; exact h s hs

/-- The inputs of a table of a length, or 0. -/
def lgN (m : Nat) : Nat := if m = 2 then 1 else if m = 4 then 2 else if m = 8 then 3 else if m = 16 then 4 else if m = 32 then 5 else 0
/-- A text is a table. -/
def isTab (l : List UInt8) : Bool := decide (0 < lgN l.length) && l.all zb
/-- The value of a text for a state. -/
def tv (l : List UInt8) : Nat → Nat := fun s => (l.getD s 48).toNat - 48

theorem lgN_pos (m : Nat) (h : 0 < lgN m) : 1 ≤ lgN m ∧ lgN m ≤ 5 ∧ m = 2 ^ lgN m ∧ m ≤ 32 := by
  unfold lgN at *
  repeat' split
  all_goals (try simp_all)
theorem lgN_pow (n : Nat) (h1 : 1 ≤ n) (h5 : n ≤ 5) : lgN (2 ^ n) = n := by
  obtain rfl | rfl | rfl | rfl | rfl : n = 1 ∨ n = 2 ∨ n = 3 ∨ n = 4 ∨ n = 5 := by omega
  all_goals rfl
theorem lgN_none (m : Nat) (h : ∀ j, 1 ≤ j → j ≤ 5 → m ≠ 2 ^ j) : lgN m = 0 := by
  rcases Nat.eq_zero_or_pos (lgN m) with h0 | h0
  · exact h0
  · have := lgN_pos m h0
    exact absurd this.2.2.1 (h _ this.1 this.2.1)
theorem isTab_pos (l : List UInt8) (h : isTab l = true) : 0 < lgN l.length ∧ l.all zb = true := by
  unfold isTab at h; simp only [Bool.and_eq_true, decide_eq_true_eq] at h; exact h
theorem tv_le (l : List UInt8) (h : l.all zb = true) (s : Nat) : tv l s ≤ 1 := zb_all_le l h s
theorem tv_past (l : List UInt8) (s : Nat) (h : l.length ≤ s) : tv l s = 0 := by
  unfold tv; rw [List.getD_eq_getElem?_getD, List.getElem?_eq_none h]; rfl
theorem upto_tv (l : List UInt8) : upto l.length (tv l) = tv l := by
  funext s
  unfold upto
  split
  · rfl
  · exact (tv_past l s (by omega)).symm
theorem pow_le32 (n : Nat) (h5 : n ≤ 5) : 2 ^ n ≤ 32 := by
  have := Nat.pow_le_pow_right (n := 2) (by omega) h5; omega


/-- The cells of m bytes. -/
def bcells (m : Nat) (f : Nat → Nat) : Array Value := ((List.range m).map fun s => Value.int .u8 ((f s : Nat) : Int)).toArray
theorem bcells_size (m : Nat) (f : Nat → Nat) : (bcells m f).size = m := by simp [bcells]
theorem bcells_get (m : Nat) (f : Nat → Nat) (s : Nat) (h : s < m) : (bcells m f)[s]? = some (.int .u8 ((f s : Nat) : Int)) := by
  simp [bcells, List.getElem?_range, h]
theorem bcells_set (m : Nat) (f : Nat → Nat) (k b : Nat) (hk : k < m) :
    (bcells m f).setIfInBounds k (.int .u8 (b : Int)) = bcells m (fun s => if s = k then b else f s) := by
  apply Array.ext_getElem?
  intro i
  rw [Array.getElem?_setIfInBounds]
  rcases Nat.lt_or_ge i m with hi | hi
  · rw [bcells_get m (fun s => if s = k then b else f s) i hi]
    by_cases hs : i = k
    · subst hs
      rw [if_pos rfl, if_pos (by rw [bcells_size]; omega)]; simp
    · rw [if_neg (fun e => hs e.symm), bcells_get _ _ _ hi]; simp [hs]
  · rw [if_neg (by omega), Array.getElem?_eq_none (by rw [bcells_size]; omega), Array.getElem?_eq_none (by rw [bcells_size]; omega)]
theorem made_bcells (m : Nat) : madeCells #[Value.int .u8 0] m = bcells m (fun _ => 0) := by
  apply Array.ext_getElem?
  intro i
  rcases Nat.lt_or_ge i m with hi | hi
  · rw [bcells_get _ _ _ hi]; simp [madeCells, hi, Nat.mod_one]
  · rw [Array.getElem?_eq_none (by rw [size_madeCells]; omega), Array.getElem?_eq_none (by rw [bcells_size]; omega)]
/-- The bytes themselves. -/
def bl (m : Nat) (f : Nat → Nat) : List UInt8 := (List.range m).map fun s => UInt8.ofNat (f s)
theorem bl_txt (m : Nat) (g : Nat → Nat) : bl m (fun s => 48 + g s) = txt m g := rfl
theorem bl_congr (m : Nat) (g g' : Nat → Nat) (h : ∀ s, s < m → g s = g' s) : bl m g = bl m g' := by
  unfold bl; apply List.map_congr_left; intro s hs; rw [h s (List.mem_range.1 hs)]
theorem bl_upto (m : Nat) (g : Nat → Nat) : bl m (upto m fun s => 48 + g s) = txt m g := by
  rw [bl_congr m (upto m fun s => 48 + g s) (fun s => 48 + g s) (fun s hs => upto_lt _ _ _ hs), bl_txt]

theorem wrap_pow (k : Nat) (h : k ≤ 5) : RowKit.wrap64 (2 ^ k) = ((2 ^ k : Nat) : Int) := by
  obtain rfl | rfl | rfl | rfl | rfl | rfl : k = 0 ∨ k = 1 ∨ k = 2 ∨ k = 3 ∨ k = 4 ∨ k = 5 := by omega
  all_goals decide +kernel
theorem ne_pow_true (n k : Nat) (h5 : k ≤ 5) (h : n ≠ 2 ^ k) : ((n : Int) != RowKit.wrap64 (2 ^ k)) = true := by
  rw [wrap_pow k h5, bne_iff_ne]; exact fun e => h (Int.ofNat.inj e)
theorem ne_pow_false (n k : Nat) (h5 : k ≤ 5) (h : n = 2 ^ k) : ((n : Int) != RowKit.wrap64 (2 ^ k)) = false := by
  rw [wrap_pow k h5, bne_eq_false_iff_eq, h]
/-- What readTable returns. -/
def rtV (l : List UInt8) : Value := if isTab l then .tuple #[.agg (tcells (lgN l.length) (tv l)), .bool true] else .tuple #[.agg (tcells 0 (fun _ => 0)), .bool false]
theorem rtV_none (l : List UInt8) (h : lgN l.length = 0) : rtV l = .tuple #[.agg (tcells 0 (fun _ => 0)), .bool false] := by
  unfold rtV isTab; simp [h]
theorem rtV_bad (l : List UInt8) (h : l.all zb = false) : rtV l = .tuple #[.agg (tcells 0 (fun _ => 0)), .bool false] := by
  unfold rtV isTab; rw [h]; simp
theorem rtV_good (l : List UInt8) (k : Nat) (h1 : 1 ≤ k) (h5 : k ≤ 5) (hl : l.length = 2 ^ k) (h : l.all zb = true) : rtV l = .tuple #[.agg (tcells k (upto l.length (tv l))), .bool true] := by
  unfold rtV isTab
  rw [h, hl, lgN_pow k h1 h5, ← hl, upto_tv]
  have : 0 < k := by omega
  simp [this]

theorem eq_pow_true (n k : Nat) (h5 : k ≤ 5) (h : n = 2 ^ k) : ((n : Int) == RowKit.wrap64 (2 ^ k)) = true := by
  rw [wrap_pow k h5, beq_iff_eq, h]
theorem eq_pow_false (n k : Nat) (h5 : k ≤ 5) (h : n ≠ 2 ^ k) : ((n : Int) == RowKit.wrap64 (2 ^ k)) = false := by
  rw [wrap_pow k h5, beq_eq_false_iff_ne]; exact fun e => h (Int.ofNat.inj e)
/-- What the reference says of a length. -/
def inpN (m : Nat) : Int := if lgN m = 0 then -1 else lgN m
theorem inpN_pow (m k : Nat) (h1 : 1 ≤ k) (h5 : k ≤ 5) (h : m = 2 ^ k) : inpN m = k := by
  unfold inpN; rw [h, lgN_pow k h1 h5, if_neg (by omega)]
theorem inpN_pos (m : Nat) : decide (0 < inpN m) = decide (0 < lgN m) := by
  unfold inpN
  by_cases h : lgN m = 0
  · rw [if_pos h, h]; decide
  · rw [if_neg h]; simp
/-- What InputsOf returns. -/
def inpL (l : List UInt8) : Int := if isTab l then lgN l.length else -1
theorem inpL_no (l : List UInt8) (h : isTab l = false) : inpL l = -1 := by unfold inpL; rw [h]; rfl
theorem inpL_yes (l : List UInt8) (h : isTab l = true) : inpL l = inpN l.length := by
  have h0 : lgN l.length ≠ 0 := by have := (isTab_pos l h).1; omega
  unfold inpL inpN; rw [h, if_neg h0]; rfl
theorem inpL_yes' (l : List UInt8) (h : isTab l = true) : inpL l = lgN l.length := by unfold inpL; rw [h]; rfl
/-- What ValueAt returns. -/
def valL (l : List UInt8) (s : Int) : Int := if isTab l ∧ 0 ≤ s ∧ s < l.length then tv l s.toNat else -1
theorem valL_no (l : List UInt8) (s : Int) (h : isTab l = false ∨ ¬ (0 ≤ s ∧ s < (l.length : Int))) : valL l s = -1 := by
  unfold valL; rw [if_neg]; rintro ⟨h1, h2⟩; rcases h with h | h
  · rw [h] at h1; cases h1
  · exact h h2
theorem valL_yes (l : List UInt8) (n : Nat) (h : isTab l = true) (hn : n < l.length) : valL l n = tv l n := by
  unfold valL; rw [if_pos ⟨h, by omega, by omega⟩]; simp
theorem tv_byte (f : ByteArray) (s : Nat) (hs : s < f.size) (hz : f.data.toList.all zb = true) : 48 ≤ (f[s].toNat : Int) ∧ (f[s].toNat : Int) ≤ 49 ∧ ((tv f.data.toList s : Nat) : Int) = (f[s].toNat : Int) - 48 := by
  have hb := (zb_iff _).1 (List.all_eq_true.1 hz f[s] (List.getElem_mem (l := f.data.toList) (n := s) hs))
  refine ⟨by omega, by omega, ?_⟩
  unfold tv
  rw [List.getD_eq_getElem?_getD, List.getElem?_eq_getElem (show s < f.data.toList.length from hs)]
  simp only [Option.getD_some]
  show (((f[s]).toNat - 48 : Nat) : Int) = _
  omega

theorem rt_no (l : List UInt8) (h : isTab l = false) : rtV l = .tuple #[.agg (tcells 0 (fun _ => 0)), .bool false] := by unfold rtV; rw [h]; rfl
theorem rt_yes (l : List UInt8) (h : isTab l = true) : ∃ n, 1 ≤ n ∧ n ≤ 5 ∧ 2 ^ n = l.length ∧ lgN l.length = n ∧ l.all zb = true ∧ rtV l = .tuple #[.agg (tcells n (tv l)), .bool true] := by
  obtain ⟨h1, h2⟩ := isTab_pos l h
  obtain ⟨a, b, c, d⟩ := lgN_pos _ h1
  exact ⟨lgN l.length, a, b, c.symm, rfl, h2, by unfold rtV; rw [h]; rfl⟩
/-- A text and whether there is one. -/
def strI (b : Bool) (l : List UInt8) : ByteArray := if b then ⟨l.toArray⟩ else ⟨#[]⟩
theorem strI_true (l : List UInt8) : strI true l = ⟨l.toArray⟩ := rfl
theorem strI_false (l : List UInt8) : strI false l = ⟨#[]⟩ := rfl
theorem strI_size (b : Bool) (l : List UInt8) : (strI b l).size ≤ l.length := by
  cases b
  · exact Nat.zero_le _
  · exact Nat.le_refl _
theorem d01 (v : Nat) (h : v ≤ 1) : (⟨#[48, 49]⟩ : ByteArray).extract v (v + 1) = ⟨#[UInt8.ofNat (48 + v)]⟩ := by
  obtain rfl | rfl : v = 0 ∨ v = 1 := by omega
  all_goals decide +kernel
/-- What FormatState returns. -/
def fsOk (s n : Int) : Bool := (decide (1 ≤ n) && decide (n ≤ 5)) && (decide (0 ≤ s) && decide (s ≤ ((2 ^ n.toNat : Nat) : Int) - 1))
def fsL (s n : Nat) : List UInt8 := txt n (fun i => bitN s i)
/-- A term lies within another one: a star of the second, or the same byte. -/
def insideB (t u : List UInt8) : Bool := (List.range t.length).all fun i => u.getD i 0 == 42 || u.getD i 0 == t.getD i 0
theorem insideB_false (t u : List UInt8) (k : Nat) (hk : k < t.length) (h1 : u.getD k 0 ≠ 42) (h2 : u.getD k 0 ≠ t.getD k 0) : insideB t u = false := by
  unfold insideB; rw [List.all_eq_false]
  exact ⟨k, List.mem_range.2 hk, by simp at h1 h2 ⊢; exact ⟨h1, h2⟩⟩
theorem insideB_true (t u : List UInt8) (h : ∀ i, i < t.length → u.getD i 0 = 42 ∨ u.getD i 0 = t.getD i 0) : insideB t u = true := by
  unfold insideB; rw [List.all_eq_true]
  intro i hi
  rcases h i (List.mem_range.1 hi) with h | h
  · rw [h]; rfl
  · rw [h]; simp
/-- What IsInside returns. -/
def isInsideV (t u : List UInt8) : Bool := isTerm t t.length && (isTerm u t.length && insideB t u)
theorem isTerm_len (l : List UInt8) (n : Int) (h : isTerm l n = true) : (l.length : Int) = n ∧ 1 ≤ n ∧ n ≤ 5 ∧ l.all tb = true := by
  unfold isTerm at h; simp only [Bool.and_eq_true, decide_eq_true_eq] at h; exact ⟨h.1.2, h.1.1.1, h.1.1.2, h.2⟩
theorem getD_byte (f : ByteArray) (k : Nat) (h : k < f.size) : f.data.toList.getD k 0 = f[k] := by
  rw [List.getD_eq_getElem?_getD, List.getElem?_eq_getElem (show k < f.data.toList.length from h)]; rfl
theorem u8_ne (a b : UInt8) : ((a.toNat : Int) != (b.toNat : Int)) = decide (a ≠ b) := by
  rw [Bool.eq_iff_iff]; simp only [bne_iff_ne, decide_eq_true_eq]
  constructor
  · rintro h rfl; exact h rfl
  · intro h e; exact h (UInt8.toNat_inj.1 (Int.ofNat.inj e))
theorem u8_ne_lit (a : UInt8) (k : Nat) (hk : k < 256) : ((a.toNat : Int) != (k : Int)) = decide (a ≠ UInt8.ofNat k) := by
  rw [← u8_ne]; simp [Nat.mod_eq_of_lt hk]
def constOk (n v : Int) : Bool := (decide (1 ≤ n) && decide (n ≤ 5)) && (decide (0 ≤ v) && decide (v ≤ 1))
def inputOk (n i : Int) : Bool := (decide (1 ≤ n) && decide (n ≤ 5)) && (decide (0 ≤ i) && decide (i ≤ n - 1))
theorem constL_many (n v : Nat) : many [UInt8.ofNat (48 + v)] (2 ^ n) = txt (2 ^ n) (fun _ => v) := by
  rw [many_one]; unfold txt; simp [List.map_const']
def notL (l : List UInt8) : List UInt8 := txt l.length (fun s => 1 - tv l s)
def dualL (l : List UInt8) : List UInt8 := txt l.length (fun s => 1 - tv l (l.length - 1 - s))
def constL (n v : Nat) : List UInt8 := txt (2 ^ n) (fun _ => v)
def inputL (n i : Nat) : List UInt8 := txt (2 ^ n) (fun s => bitN s i)
theorem ret_sb {a b : ByteArray} {c d : Bool} (h : a = b) (h2 : c = d) : Ending.returned (.tuple #[.string a, .bool c]) = .returned (.tuple #[.string b, .bool d]) := by rw [h, h2]

end Go.Proofs.Ytnplaiolencgjaa
