/- Laws of the walk that hold in whatever program: whole rows of cells, function values. -/
import Derived.Test.YtnplaiolencgjaaPc
import Derived.WalkKit
import Derived.Below
import Derived.Laws.Rows
import Derived.Laws.IdiomStrings
import Derived.OwnWalk
namespace Go.Proofs.Ytnplaiolencgjaa
set_option linter.unusedVariables false
set_option linter.unusedSimpArgs false
open Go.RowKit

theorem ret_bool {a b : Bool} (h : a = b) : Ending.returned (.bool a) = .returned (.bool b) := by rw [h]
theorem ret_int {k : IntKind} {a b : Int} (h : a = b) : Ending.returned (.int k a) = .returned (.int k b) := by rw [h]
theorem ret_str {a b : ByteArray} (h : a = b) : Ending.returned (.string a) = .returned (.string b) := by rw [h]
theorem s_get (s : ByteArray) (k : Nat) (h : k < s.size) : s.data.toList[k]'h = s[k] := rfl

theorem bcell {W w1 : World} (hb : Below W.heap.size W w1) : (∀ b o, b < W.heap.size → w1.cell? ⟨b, o, none⟩ = W.cell? ⟨b, o, none⟩) ∧ (∀ b o, b < W.heap.size → w1.frozen? ⟨b, o, none⟩ = W.frozen? ⟨b, o, none⟩) :=
  ⟨fun b o h => hb.cell (p := ⟨b, o, none⟩) h, fun b o h => hb.frozen (p := ⟨b, o, none⟩) h⟩

theorem below_setRow0 {B : Nat} {a w : World} (h : Below B a w) {g : Nat} (hg : B ≤ g) (cs : Array Value) : Below B a (w.setRow g cs) :=
  ⟨h.os, h.tape, h.output, by simpa using h.size, fun k hk => (setRow_other w g k cs (by omega)).trans (h.block k hk)⟩

section
variable {P : Program} {ops : Array Oper} {rest : List Oper} {a : Act} {w : World} {Q : Exit → Act → World → Prop}

/-- 'new(T)', 'var x T': T a struct or an array whose zero is known. -/
theorem wpList_alloc_row {dst : Option Tmp} {ty0 : TypeId} {pos : String} {aft : Array Edge} (ty : TypeId) (cs : Array Value) (hz : ∀ w, (zeroValue ty).run P w = .ok (.agg cs) w)
    (h : wpList P ops Q rest (a.put dst (.pointer (some ⟨w.heap.size, 0, none⟩))) (w.alloc (.cells cs ty))) :
    wpList P ops Q (⟨dst, .alloc ty, ty0, pos, aft, none⟩ :: rest) a w := by
  refine wpList_plain rfl fun K hK => ?_
  unfold Oper.wp execOp
  simp [Instr.alloc, hz, newVar, newRow, Value.cells]
  exact hK _ _ h

/-- 'T{..}': its cells are known. -/
theorem wpList_build_row {dst : Option Tmp} {ty0 : TypeId} {pos : String} {aft : Array Edge} (ty : TypeId) (parts : Array (Nat × Operand)) (cs : Array Value)
    (hb : P.built ty (parts.map fun (i, x) => (i, a.eval x)).toList = some cs)
    (h : wpList P ops Q rest (a.put dst (.agg cs)) w) : wpList P ops Q (⟨dst, .build ty parts, ty0, pos, aft, none⟩ :: rest) a w :=
  wpList_build rfl ty parts rfl (by rw [hb]; rfl) (by rw [hb]; exact h)

theorem wpList_build0 {dst : Option Tmp} {ty0 : TypeId} {pos : String} {aft : Array Edge} (ty : TypeId) (cs : Array Value) (hb : P.built ty [] = some cs)
    (h : wpList P ops Q rest (a.put dst (.agg cs)) w) : wpList P ops Q (⟨dst, .build ty #[], ty0, pos, aft, none⟩ :: rest) a w :=
  wpList_build_row ty #[] cs (by simpa using hb) h
theorem wpList_build1 {dst : Option Tmp} {ty0 : TypeId} {pos : String} {aft : Array Edge} (ty : TypeId) (i : Nat) (x : Operand) (v : Value) (cs : Array Value) (hx : a.eval x = v) (hb : P.built ty [(i, v)] = some cs)
    (h : wpList P ops Q rest (a.put dst (.agg cs)) w) : wpList P ops Q (⟨dst, .build ty #[(i, x)], ty0, pos, aft, none⟩ :: rest) a w :=
  wpList_build_row ty #[(i, x)] cs (by simpa [hx] using hb) h

/-- A table is stored into the block that was made last. -/
theorem wpList_storeT_new {dst : Option Tmp} {ty0 : TypeId} {pos : String} {aft : Array Edge} (ty : TypeId) (x y : Operand) (n n' : Nat) (f f' : Nat → Nat) (W : World) (t : TypeId)
    (hx : a.eval x = .pointer (some ⟨W.heap.size, 0, none⟩)) (hy : a.eval y = .agg (tcells n f)) (hi : (P.info? ty).map (·.size) = some 33)
    (h : wpList P ops Q rest (a.put dst undef) (W.alloc (.cells (tcells n f) t))) : wpList P ops Q (⟨dst, .store ty x y, ty0, pos, aft, none⟩ :: rest) a (W.alloc (.cells (tcells n' f') t)) := by
  refine wpList_store_row rfl ty x y rfl W.heap.size (tcells n f) hx hy t (tcells n' f') (heap_alloc_new W _) (by rw [tcells_size]; exact hi) (by rw [tcells_size, tcells_size]) (tcells_one _ _) ?_
  have e : (W.alloc (.cells (tcells n' f') t)).setRow W.heap.size (tcells n f) = W.alloc (.cells (tcells n f) t) := by
    unfold World.setRow World.alloc
    congr 1
    apply Array.ext_getElem?
    intro i
    rw [Array.getElem?_modify, Array.getElem?_push, Array.getElem?_push]
    by_cases hi : i = W.heap.size
    · subst hi; simp
    · rw [if_neg (fun e => hi e.symm), if_neg hi, if_neg hi]
  rw [e]
  exact h

/-- A table is stored into a block that is known. -/
theorem wpList_storeT {dst : Option Tmp} {ty0 : TypeId} {pos : String} {aft : Array Edge} (ty : TypeId) (x y : Operand) (g n n' : Nat) (f f' : Nat → Nat) (t : TypeId)
    (hx : a.eval x = .pointer (some ⟨g, 0, none⟩)) (hy : a.eval y = .agg (tcells n f)) (hg : w.heap[g]? = some (.cells (tcells n' f') t (0, 0))) (hi : (P.info? ty).map (·.size) = some 33)
    (h : wpList P ops Q rest (a.put dst undef) (w.setRow g (tcells n f))) : wpList P ops Q (⟨dst, .store ty x y, ty0, pos, aft, none⟩ :: rest) a w :=
  wpList_store_row rfl ty x y rfl g (tcells n f) hx hy t (tcells n' f') hg (by rw [tcells_size]; exact hi) (by rw [tcells_size, tcells_size]) (tcells_one _ _) h

/-- A table is loaded out of a block that is known. -/
theorem wpList_loadT {dst : Option Tmp} {ty0 : TypeId} {pos : String} {aft : Array Edge} (ty : TypeId) (x : Operand) (g n : Nat) (f : Nat → Nat) (t : TypeId) (fs : Array Field)
    (hx : a.eval x = .pointer (some ⟨g, 0, none⟩)) (hg : w.heap[g]? = some (.cells (tcells n f) t (0, 0))) (hu : P.underlying ty = some (.struct fs)) (hi : (P.info? ty).map (·.size) = some 33)
    (h : wpList P ops Q rest (a.put dst (.agg (tcells n f))) w) : wpList P ops Q (⟨dst, .load ty x, ty0, pos, aft, none⟩ :: rest) a w :=
  wpList_load_row rfl ty x rfl g hx t (tcells n f) (0, 0) (.struct fs) hg hu rfl (by rw [tcells_size]; exact hi) h
/-- The same, guarded. -/
theorem wpList_loadTg {dst : Option Tmp} {ty0 : TypeId} {pos : String} {aft : Array Edge} {j : Nat} {b : Bool} (ty : TypeId) (x : Operand) (g n : Nat) (f : Nat → Nat) (t : TypeId) (fs : Array Field)
    (hw : yielded ops a.tmps j = some b)
    (hx : a.eval x = .pointer (some ⟨g, 0, none⟩)) (hg : w.heap[g]? = some (.cells (tcells n f) t (0, 0))) (hu : P.underlying ty = some (.struct fs)) (hi : (P.info? ty).map (·.size) = some 33)
    (h : wpList P ops Q rest (a.put dst (.agg (tcells n f))) w) : wpList P ops Q (⟨dst, .load ty x, ty0, pos, aft, some (j, b)⟩ :: rest) a w :=
  wpList_step fun _ hK => by
    rw [if_pos (by simp [Region.wanted, hw])]
    exact wp_load_row ty x rfl g hx t (tcells n f) (0, 0) (.struct fs) hg hu rfl (by rw [tcells_size]; exact hi) (hK _ _ h)

/-- 'make([]byte, m)'. -/
theorem wpList_makeB {dst : Option Tmp} {ty0 : TypeId} {pos : String} {aft : Array Edge} (t e : TypeId) (l c : Operand) (m : Nat) (hl : a.eval l = .int .i64 (m : Int)) (hc : a.eval c = .int .i64 (m : Int)) (ht : P.underlying t = some (.slice e))
    (hi : (P.info? e).map (fun i => (i.zero, i.size, i.bytes)) = some (some (.int .u8 0), 1, 1)) (hm : m ≤ 65536)
    (h : wpList P ops Q rest (a.put dst (.slice (some ⟨w.heap.size, 0, none⟩) m m)) (w.alloc (.cells (bcells m (fun _ => 0)) e))) :
    wpList P ops Q (⟨dst, .makeSlice t l c, ty0, pos, aft, none⟩ :: rest) a w := by
  obtain ⟨i, hi, hz, h1, h2⟩ := info_parts hi
  refine wpList_plain rfl fun K hK => ?_
  have hr := run_make (P := P) w t e i (.int .u8 0) ht hi hz .i64 .i64 (m : Int) (m : Int) (by omega) (by omega) (by rw [h2]; omega) (by omega)
  rw [Int.toNat_natCast, h1, Nat.mul_one, show (Value.int .u8 0).cells = #[Value.int .u8 0] from rfl, made_bcells] at hr
  unfold Oper.wp
  simp [execOp, hl, hc, hr, Result.andThen]
  exact hK _ _ h

/-- 'string(b)', b a block of m bytes. -/
theorem wpList_strB {dst : Option Tmp} {ty0 : TypeId} {pos : String} {aft : Array Edge} (src d e : TypeId) (x : Operand) (g m c : Nat) (f : Nat → Nat) (hx : a.eval x = .slice (some ⟨g, 0, none⟩) m c)
    (hs : P.underlying src = some (.slice e)) (he : P.underlying e = some (.int .u8)) (hd : P.underlying d = some .string)
    (hg : w.heap[g]? = some (.cells (bcells m f) e (0, 0))) (hf : ∀ s, s < m → f s < 256)
    (h : wpList P ops Q rest (a.put dst (.string ⟨(bl m f).toArray⟩)) w) :
    wpList P ops Q (⟨dst, .convert src d x, ty0, pos, aft, none⟩ :: rest) a w := by
  have hr := run_convert_bytes_back (P := P) w src d e ⟨g, 0, none⟩ c (bl m f) hs he hd (fun j hj => by
    have hj' : j < m := by simpa [bl] using hj
    have hadd : (⟨g, 0, none⟩ : Addr).add j = ⟨g, j, none⟩ := by unfold Addr.add; split <;> simp_all
    rw [hadd, cell_of_row _ _ _ _ _ _ hg, bcells_get _ _ _ hj']
    have := hf j hj'
    simp [bl, Nat.mod_eq_of_lt this])
  rw [show (bl m f).length = m by simp [bl]] at hr
  refine wpList_plain rfl fun K hK => ?_
  unfold Oper.wp
  simp [execOp, hx, hr, Result.andThen]
  exact hK _ _ h

/-- A table and a value are returned. -/
theorem results_T_tmp {fn : Func} {p u : Tmp} {ty : TypeId} (h : fn.results = #[.cell p ty, .tmp u]) (tmps : Array Value) (w : World) (g : Nat) (t : TypeId) (n : Nat) (f : Nat → Nat) (fs : Array Field)
    (hp : tmps.getD p undef = .pointer (some ⟨g, 0, none⟩)) (hg : w.heap[g]? = some (.cells (tcells n f) t (0, 0)))
    (hu : P.underlying ty = some (.struct fs)) (hi : (P.info? ty).map (·.size) = some 33) :
    (results fn tmps).run P w = .ok (.tuple #[.agg (tcells n f), tmps.getD u undef]) w := by
  have hp' : tmps[p]?.getD undef = .pointer (some ⟨g, 0, none⟩) := by simpa using hp
  simp [results, h, hp', asAddr, run_loadVar_row w g t ty (tcells n f) (0, 0) (.struct fs) hg hu rfl (by rw [tcells_size]; exact hi)]
end
end Go.Proofs.Ytnplaiolencgjaa
