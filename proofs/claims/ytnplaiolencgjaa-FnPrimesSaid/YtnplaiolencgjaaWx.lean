/- Walks: what the functions on tables hand back, by the tables' values. -/
import Derived.Test.YtnplaiolencgjaaPi
import Derived.Test.YtnplaiolencgjaaWd3
import Derived.Test.YtnplaiolencgjaaWs5
import Derived.Test.YtnplaiolencgjaaWi2
import Derived.Test.YtnplaiolencgjaaWi4
import Derived.Test.YtnplaiolencgjaaWi5
namespace Go.Proofs.Ytnplaiolencgjaa
set_option linter.unusedVariables false
set_option linter.unusedSimpArgs false
open Go.RowKit

/-- The call returns this value, wherever it is made behind w0. -/
def Co (w0 : World) (f : Nat) (args : Array Value) (v : Value) : Prop := ∀ w, Below w0.heap.size w0 w → Calls Try.prog f args w (fun e w' => e = .returned v ∧ Below w0.heap.size w0 w')
theorem Co.at {w0 : World} {f : Nat} {args : Array Value} {v : Value} (h : Co w0 f args v) {w : World} (hB : Below w0.heap.size w0 w) : Calls Try.prog f args w (fun e w' => e = .returned v ∧ Below w0.heap.size w0 w') := h w hB
theorem co (w0 : World) {f : Nat} {args : Array Value} {v : Value} (h : ∀ w, Calls Try.prog f args w (fun e w' => e = .returned v ∧ Below w.heap.size w w')) : Co w0 f args v :=
  fun w hB => (h w).mono fun _ _ ⟨he, hb⟩ => ⟨he, hB.trans (hb.mono hB.size)⟩
theorem co0 (w0 : World) {f : Nat} {args : Array Value} {v : Value} (h : ∀ w, Calls Try.prog f args w (fun e w' => e = .returned v ∧ w = w')) : Co w0 f args v :=
  fun w hB => (h w).mono fun _ _ ⟨he, hb⟩ => ⟨he, hb ▸ hB⟩
theorem Co.as {w0 : World} {f : Nat} {args : Array Value} {v v' : Value} (h : Co w0 f args v) (e : v = v') : Co w0 f args v' := e ▸ h
theorem sb_eq {a b : ByteArray} {x y : Bool} (h : a = b) (h2 : x = y) : (Value.tuple #[.string a, .bool x]) = .tuple #[.string b, .bool y] := by rw [h, h2]
theorem str_eq {a b : ByteArray} (h : a = b) : Value.string a = .string b := by rw [h]
theorem int_eq {a b : Int} (h : a = b) : Value.int .i64 a = .int .i64 b := by rw [h]
theorem str_ne {a b : ByteArray} (h : a ≠ b) : (a.toList == b.toList) = false := by
  rw [Bool.eq_false_iff]
  intro hh
  apply h
  have := eq_of_beq hh
  rw [ByteArray.toList_eq, ByteArray.toList_eq] at this
  apply ByteArray.ext
  exact Array.toList_inj.1 this
theorem strI_yes {b : Bool} {l m : List UInt8} (h : b = true) (h2 : l = m) : strI b l = ⟨m.toArray⟩ := by rw [h, h2]; rfl
theorem strI_no {b : Bool} {l : List UInt8} (h : b = false) : strI b l = ⟨#[]⟩ := by rw [h]; rfl

section
variable {n : Nat} {g h : Nat → Nat} (w0 : World) (h1 : 1 ≤ n) (h5 : n ≤ 5) (hg : ∀ s, g s ≤ 1) (hh : ∀ s, h s ≤ 1)
include h1 h5 hg

theorem tValidI : Co w0 8 #[.string (T n g)] (.bool true) :=
  (co w0 fun w => tableValidI (T n g) w (T_small n g h5)).as (by rw [isTab_T h1 h5 hg])

theorem tValidS : Co w0 20 #[.string (T n g)] (.bool true) :=
  (co0 w0 fun w => tableValidS (T n g) w (T_small n g h5)).as (by rw [isTab_T h1 h5 hg])

theorem tInputsI : Co w0 12 #[.string (T n g)] (.int .i64 (n : Int)) :=
  (co w0 fun w => inputsOfI (T n g) w (T_small n g h5)).as (by rw [inpL_T h1 h5 hg])

include hh

end

section
variable {n : Nat} (w0 : World) (h1 : 1 ≤ n) (h5 : n ≤ 5)
include h1 h5

theorem constOk_T (v : Nat) (hv : v ≤ 1) : constOk (n : Int) (v : Int) = true := by unfold constOk; simp; omega
theorem inputOk_T (i : Nat) (hi : i < n) : inputOk (n : Int) (i : Int) = true := by unfold inputOk; simp; omega

end

end Go.Proofs.Ytnplaiolencgjaa
