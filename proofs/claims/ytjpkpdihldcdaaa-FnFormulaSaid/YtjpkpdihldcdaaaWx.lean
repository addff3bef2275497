/- Walks: what the functions on tables hand back, by the tables' values. -/
import Derived.Test.YtjpkpdihldcdaaaPi
import Derived.Test.YtjpkpdihldcdaaaWd3
import Derived.Test.YtjpkpdihldcdaaaWs5
import Derived.Test.YtjpkpdihldcdaaaWi2
import Derived.Test.YtjpkpdihldcdaaaWi4
import Derived.Test.YtjpkpdihldcdaaaWi5
namespace Go.Proofs.Ytjpkpdihldcdaaa
set_option linter.unusedVariables false
set_option linter.unusedSimpArgs false
open Go.RowKit

/-- The call returns this value, wherever it is made behind w0. -/
def Co (w0 : World) (f : Nat) (args : Array Value) (v : Value) : Prop := ∀ w, Below w0.heap.size w0 w → Calls Try.prog f args w (fun e w' => e = .returned v ∧ Below w0.heap.size w0 w')
theorem Co.at {w0 : World} {f : Nat} {args : Array Value} {v : Value} (h : Co w0 f args v) {w : World} (hB : Below w0.heap.size w0 w) : Calls Try.prog f args w (fun e w' => e = .returned v ∧ Below w0.heap.size w0 w') := h w hB
theorem co (w0 : World) {f : Nat} {args : Array Value} {v : Value} (h : ∀ w, Calls Try.prog f args w (fun e w' => e = .returned v ∧ Below w.heap.size w w')) : Co w0 f args v :=
  fun w hB => (h w).mono fun _ _ ⟨he, hb⟩ => ⟨he, hB.trans (hb.mono hB.size)⟩
theorem co0 (w0 : World) {f : Nat} {args : Array Value} {v : Value} (h : ∀ w, Calls Try.prog f args w (fun e w' => e = .returned v ∧ w = w')) : Co w0 f args v :=
  fun w hB => (h w).mono fun _ _ ⟨he, hb⟩ => ⟨he, hb ▸ hB⟩
theorem Co.as {w0 : World} {f : Nat} {args : Array Value} {v v' : Value} (h : Co w0 f args v) (e : v = v') : Co w0 f args v' := e ▸ h
theorem sb_eq {a b : ByteArray} {x y : Bool} (h : a = b) (h2 : x = y) : (Value.tuple #[.string a, .bool x]) = .tuple #[.string b, .bool y] := by rw [h, h2]
theorem str_eq {a b : ByteArray} (h : a = b) : Value.string a = .string b := by rw [h]
theorem int_eq {a b : Int} (h : a = b) : Value.int .i64 a = .int .i64 b := by rw [h]
theorem str_ne {a b : ByteArray} (h : a ≠ b) : (a.toList == b.toList) = false := by
  rw [Bool.eq_false_iff]
  intro hh
  apply h
  have := eq_of_beq hh
  rw [ByteArray.toList_eq, ByteArray.toList_eq] at this
  apply ByteArray.ext
  exact Array.toList_inj.1 this
theorem strI_yes {b : Bool} {l m : List UInt8} (h : b = true) (h2 : l = m) : strI b l = ⟨m.toArray⟩ := by rw [h, h2]; rfl
theorem strI_no {b : Bool} {l : List UInt8} (h : b = false) : strI b l = ⟨#[]⟩ := by rw [h]; rfl

section
variable {n : Nat} {g h : Nat → Nat} (w0 : World) (h1 : 1 ≤ n) (h5 : n ≤ 5) (hg : ∀ s, g s ≤ 1) (hh : ∀ s, h s ≤ 1)
include h1 h5 hg

theorem tNotI : Co w0 21 #[.string (T n g)] (.tuple #[.string (T n fun s => 1 - g s), .bool true]) :=
  (co w0 fun w => notTableI (T n g) w (T_small n g h5)).as (sb_eq (strI_yes (isTab_T h1 h5 hg) (notL_T hg)) (isTab_T h1 h5 hg))

theorem tNotS : Co w0 22 #[.string (T n g)] (.tuple #[.string (T n fun s => 1 - g s), .bool true]) :=
  (co w0 fun w => notTableS (T n g) w (T_small n g h5)).as (sb_eq (strI_yes (isTab_T h1 h5 hg) (notL_T hg)) (isTab_T h1 h5 hg))

theorem tDualI : Co w0 28 #[.string (T n g)] (.tuple #[.string (T n fun s => 1 - g (2 ^ n - 1 - s)), .bool true]) :=
  (co w0 fun w => dualTableI (T n g) w (T_small n g h5)).as (sb_eq (strI_yes (isTab_T h1 h5 hg) (dualL_T hg)) (isTab_T h1 h5 hg))

theorem tDualS : Co w0 29 #[.string (T n g)] (.tuple #[.string (T n fun s => 1 - g (2 ^ n - 1 - s)), .bool true]) :=
  (co w0 fun w => dualTableS (T n g) w (T_small n g h5)).as (sb_eq (strI_yes (isTab_T h1 h5 hg) (dualL_T hg)) (isTab_T h1 h5 hg))

theorem tValidI : Co w0 15 #[.string (T n g)] (.bool true) :=
  (co w0 fun w => tableValidI (T n g) w (T_small n g h5)).as (by rw [isTab_T h1 h5 hg])

theorem tValidS : Co w0 18 #[.string (T n g)] (.bool true) :=
  (co0 w0 fun w => tableValidS (T n g) w (T_small n g h5)).as (by rw [isTab_T h1 h5 hg])

theorem tInputsI : Co w0 16 #[.string (T n g)] (.int .i64 (n : Int)) :=
  (co w0 fun w => inputsOfI (T n g) w (T_small n g h5)).as (by rw [inpL_T h1 h5 hg])

theorem tInputsS : Co w0 19 #[.string (T n g)] (.int .i64 (n : Int)) :=
  (co0 w0 fun w => inputsOfS (T n g) w (T_small n g h5)).as (by rw [inpL_T h1 h5 hg])

theorem tValueI (s : Nat) (hs : s < 2 ^ n) : Co w0 17 #[.string (T n g), .int .i64 (s : Int)] (.int .i64 ((g s : Nat) : Int)) :=
  (co w0 fun w => valueAtI (T n g) s w (T_small n g h5)).as (by rw [valL_T h1 h5 hg s hs])

theorem tValueS (s : Nat) (hs : s < 2 ^ n) : Co w0 20 #[.string (T n g), .int .i64 (s : Int)] (.int .i64 ((g s : Nat) : Int)) :=
  (co0 w0 fun w => valueAtS (T n g) s w (T_small n g h5)).as (by rw [valL_T h1 h5 hg s hs])

theorem tValueOutI (s : Int) (hs : ¬ (0 ≤ s ∧ s < ((2 ^ n : Nat) : Int))) : Co w0 17 #[.string (T n g), .int .i64 s] (.int .i64 (-1)) :=
  (co w0 fun w => valueAtI (T n g) s w (T_small n g h5)).as (by rw [valL_out h1 h5 hg s hs])

theorem tValueOutS (s : Int) (hs : ¬ (0 ≤ s ∧ s < ((2 ^ n : Nat) : Int))) : Co w0 20 #[.string (T n g), .int .i64 s] (.int .i64 (-1)) :=
  (co0 w0 fun w => valueAtS (T n g) s w (T_small n g h5)).as (by rw [valL_out h1 h5 hg s hs])

theorem tSensI : Co w0 31 #[.string (T n g)] (.int .i64 ((snT g n (2 ^ n) : Nat) : Int)) :=
  (co w0 fun w => sensitivityOfI (T n g) w (T_small n g h5)).as (by rw [sensL_T h1 h5 hg])

theorem tSensS : Co w0 32 #[.string (T n g)] (.int .i64 ((snT g n (2 ^ n) : Nat) : Int)) :=
  (co0 w0 fun w => sensitivityOfS (T n g) w (T_small n g h5)).as (by rw [sensL_T h1 h5 hg])

theorem tHoldI (i v : Nat) (hi : i < n) (hv : v ≤ 1) : Co w0 33 #[.string (T n g), .int .i64 (i : Int), .int .i64 (v : Int)] (.tuple #[.string (T n fun s => g (holdN s i v)), .bool true]) :=
  (co w0 fun w => holdInputI (T n g) i v w (T_small n g h5)).as (sb_eq (strI_yes (holdOk_T h1 h5 hg i v hi hv) (by rw [Int.toNat_natCast, Int.toNat_natCast, holdL_T h5 hg i v hi hv])) (holdOk_T h1 h5 hg i v hi hv))

theorem tHoldS (i v : Nat) (hi : i < n) (hv : v ≤ 1) : Co w0 48 #[.string (T n g), .int .i64 (i : Int), .int .i64 (v : Int)] (.tuple #[.string (T n fun s => g (holdN s i v)), .bool true]) :=
  (co w0 fun w => holdInputS (T n g) i v w (T_small n g h5)).as (sb_eq (strI_yes (holdOk_T h1 h5 hg i v hi hv) (by rw [Int.toNat_natCast, Int.toNat_natCast, holdL_T h5 hg i v hi hv])) (holdOk_T h1 h5 hg i v hi hv))

theorem tSignI (i : Nat) (hi : i < n) : Co w0 51 #[.string (T n g), .int .i64 (i : Int)] (.string (sgT n g i)) :=
  (co w0 fun w => signOfI (T n g) i w (T_small n g h5)).as (str_eq ((strI_yes (inOk_T h1 h5 hg i hi) rfl).trans (by rw [Int.toNat_natCast, signL_T h5 hg i hi])))

theorem tSignS (i : Nat) (hi : i < n) : Co w0 53 #[.string (T n g), .int .i64 (i : Int)] (.string (sgT n g i)) :=
  (co0 w0 fun w => signOfS (T n g) i w (T_small n g h5)).as (str_eq ((strI_yes (inOk_T h1 h5 hg i hi) rfl).trans (by rw [Int.toNat_natCast, signL_T h5 hg i hi])))

theorem tDecI (i v : Nat) (hi : i < n) (hv : v ≤ 1) : Co w0 36 #[.string (T n g), .int .i64 (i : Int), .int .i64 (v : Int)] (.int .i64 (if constB (fun s => g (holdN s i v)) (2 ^ n) then ((g (holdN 0 i v) : Nat) : Int) else -1)) :=
  (co w0 fun w => decidesAloneI (T n g) i v w (T_small n g h5)).as (by rw [decL_T h1 h5 hg i v hi hv])

theorem tDecS (i v : Nat) (hi : i < n) (hv : v ≤ 1) : Co w0 37 #[.string (T n g), .int .i64 (i : Int), .int .i64 (v : Int)] (.int .i64 (if constB (fun s => g (holdN s i v)) (2 ^ n) then ((g (holdN 0 i v) : Nat) : Int) else -1)) :=
  (co w0 fun w => decidesAloneS (T n g) i v w (T_small n g h5)).as (by rw [decL_T h1 h5 hg i v hi hv])

include hh

theorem tAndI : Co w0 24 #[.string (T n g), .string (T n h)] (.tuple #[.string (T n fun s => g s * h s), .bool true]) :=
  (co w0 fun w => andTablesI (T n g) (T n h) w (T_small n g h5) (T_small n h h5)).as (sb_eq (strI_yes (bothOk_T h1 h5 hg hh) (andL_T hg hh)) (bothOk_T h1 h5 hg hh))

theorem tAndS : Co w0 25 #[.string (T n g), .string (T n h)] (.tuple #[.string (T n fun s => g s * h s), .bool true]) :=
  (co w0 fun w => andTablesS (T n g) (T n h) w (T_small n g h5) (T_small n h h5)).as (sb_eq (strI_yes (bothOk_T h1 h5 hg hh) (andL_T hg hh)) (bothOk_T h1 h5 hg hh))

theorem tOrI : Co w0 26 #[.string (T n g), .string (T n h)] (.tuple #[.string (T n fun s => max (g s) (h s)), .bool true]) :=
  (co w0 fun w => orTablesI (T n g) (T n h) w (T_small n g h5) (T_small n h h5)).as (sb_eq (strI_yes (bothOk_T h1 h5 hg hh) (orL_T hg hh)) (bothOk_T h1 h5 hg hh))

theorem tOrS : Co w0 27 #[.string (T n g), .string (T n h)] (.tuple #[.string (T n fun s => max (g s) (h s)), .bool true]) :=
  (co w0 fun w => orTablesS (T n g) (T n h) w (T_small n g h5) (T_small n h h5)).as (sb_eq (strI_yes (bothOk_T h1 h5 hg hh) (orL_T hg hh)) (bothOk_T h1 h5 hg hh))

end

section
variable {n : Nat} (w0 : World) (h1 : 1 ≤ n) (h5 : n ≤ 5)
include h1 h5

theorem constOk_T (v : Nat) (hv : v ≤ 1) : constOk (n : Int) (v : Int) = true := by unfold constOk; simp; omega
theorem inputOk_T (i : Nat) (hi : i < n) : inputOk (n : Int) (i : Int) = true := by unfold inputOk; simp; omega

theorem tConstI (v : Nat) (hv : v ≤ 1) : Co w0 34 #[.int .i64 (n : Int), .int .i64 (v : Int)] (.tuple #[.string (T n fun _ => v), .bool true]) :=
  (co w0 fun w => constantTableI n v w).as (sb_eq (strI_yes (constOk_T h1 h5 v hv) (by rw [Int.toNat_natCast, Int.toNat_natCast]; rfl)) (constOk_T h1 h5 v hv))

theorem tConstS (v : Nat) (hv : v ≤ 1) : Co w0 38 #[.int .i64 (n : Int), .int .i64 (v : Int)] (.tuple #[.string (T n fun _ => v), .bool true]) :=
  (co0 w0 fun w => constantTableS n v w).as (sb_eq (strI_yes (constOk_T h1 h5 v hv) (by rw [Int.toNat_natCast, Int.toNat_natCast]; rfl)) (constOk_T h1 h5 v hv))

theorem tInputI (i : Nat) (hi : i < n) : Co w0 49 #[.int .i64 (n : Int), .int .i64 (i : Int)] (.tuple #[.string (T n fun s => bitN s i), .bool true]) :=
  (co w0 fun w => inputTableI n i w).as (sb_eq (strI_yes (inputOk_T h1 h5 i hi) (by rw [Int.toNat_natCast, Int.toNat_natCast]; rfl)) (inputOk_T h1 h5 i hi))

theorem tInputS (i : Nat) (hi : i < n) : Co w0 50 #[.int .i64 (n : Int), .int .i64 (i : Int)] (.tuple #[.string (T n fun s => bitN s i), .bool true]) :=
  (co w0 fun w => inputTableS n i w).as (sb_eq (strI_yes (inputOk_T h1 h5 i hi) (by rw [Int.toNat_natCast, Int.toNat_natCast]; rfl)) (inputOk_T h1 h5 i hi))

end

end Go.Proofs.Ytjpkpdihldcdaaa
