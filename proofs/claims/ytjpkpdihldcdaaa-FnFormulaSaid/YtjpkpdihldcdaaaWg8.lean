/- Walks: a formula in the usual form, the program. -/
import Derived.Test.YtjpkpdihldcdaaaWg7
import Derived.MapKept
import Derived.Deep.RegionHeld3
namespace Go.Proofs.Ytjpkpdihldcdaaa
set_option linter.unusedVariables false
set_option linter.unusedSimpArgs false
open Go.RowKit

def wordL (c : UInt8) : List UInt8 := if c = 38 then [32, 97, 110, 100, 32] else if c = 124 then [32, 111, 114, 32] else [32, 120, 111, 114, 32]
/-- A formula in the usual form. -/
def showL : Fm → List UInt8
  | .con c => [c]
  | .inp c => [c]
  | .neg a => [110, 111, 116, 32] ++ showL a
  | .two c a b => [40] ++ showL a ++ wordL c ++ showL b ++ [41]
def sizeF : Fm → Nat
  | .con _ => 1
  | .inp _ => 1
  | .neg a => 1 + sizeF a
  | .two _ a b => 1 + sizeF a + sizeF b
theorem wordL_len (c : UInt8) : (wordL c).length ≤ 5 := by unfold wordL; split; decide; split <;> decide
theorem showL_len (a : Fm) : (showL a).length ≤ 8 * sizeF a := by
  induction a with
  | con c => simp [showL, sizeF]
  | inp c => simp [showL, sizeF]
  | neg a ih => simp [showL, sizeF]; omega
  | two c a b iha ihb => have := wordL_len c; simp [showL, sizeF]; omega
theorem showL_ne (a : Fm) : showL a ≠ [] := by cases a <;> simp [showL]
theorem pf_size (n : Nat) : ∀ (k : Nat) (l : List UInt8) (a : Fm) (m : List UInt8), pf n k l = some (a, m) → sizeF a + m.length ≤ l.length := by
  intro k
  induction k with
  | zero => intro l a m h; cases h
  | succ k ih =>
    intro l a m h
    rcases l with _ | ⟨c, r⟩
    · cases h
    · rcases pf_cases n k c r a m h with ⟨_, rfl, rfl⟩ | ⟨_, _, rfl, rfl⟩ | ⟨_, a', rfl, ho⟩ | ⟨_, a', b', m', rfl, ho, ho2⟩
      · simp [sizeF]; omega
      · simp [sizeF]; omega
      · have := ih _ _ _ ho; simp [sizeF]; omega
      · have := ih _ _ _ ho; have := ih _ _ _ ho2; simp [sizeF]; omega
def showB (a : Fm) : ByteArray := ⟨(showL a).toArray⟩
theorem showB_size (a : Fm) (h : sizeF a ≤ 100) : (showB a).size ≤ 800 := by
  have h1 := showL_len a
  have : (showB a).size = (showL a).length := by show (showL a).toArray.size = _; simp
  omega

theorem alloc_set (w : World) (o o' : Obj) : ({ w.alloc o with heap := (w.alloc o).heap.setIfInBounds w.heap.size o' } : World) = w.alloc o' := by
  have key : (w.heap.push o).setIfInBounds w.heap.size o' = w.heap.push o' := by
    apply Array.ext_getElem?
    intro i
    rw [Array.getElem?_setIfInBounds, Array.getElem?_push, Array.getElem?_push]
    by_cases h : i = w.heap.size
    · subst h; simp
    · rw [if_neg (fun e => h e.symm), if_neg h, if_neg h]
  unfold World.alloc
  simp only [key]
theorem mu_run (w : World) (es : Array MapEntry) (clock : Nat) (k : Int) (v : Value) (hk : Instr.findNow (.int .u8) (.int .u8 k) es.toList 0 = some none) :
    (Instr.mapUpdate 118 (.map (some w.heap.size)) (.int .u8 k) v).run Try.prog (w.alloc (.map es clock)) = .ok () (w.alloc (.map (es.push ⟨.int .u8 k, v, clock⟩) (clock+1))) := by
  have hb := (Go.MapKept.heap_alloc w (.map es clock)).1
  have hkey : Go.MapKept.IsKey (.int .u8) (.int .u8 k) := by simp [Go.MapKept.IsKey]
  simp [Instr.mapUpdate, run_underlying Try.underlying118, Go.MapKept.run_getObj_map hb, Go.MapKept.run_checkKey Try.underlying5 hkey, Go.MapKept.run_findKey Try.underlying5 hk, Go.MapKept.run_setObj_map _ hb, Result.andThen]
  exact alloc_set w _ _
theorem lk_run (w : World) (r : Nat) (es : Array MapEntry) (clock : Nat) (k : Int) (v : Value) (i : Nat) (hb : w.heap[r]? = some (.map es clock)) (hk : Instr.findNow (.int .u8) (.int .u8 k) es.toList 0 = some (some (i, v))) :
    (Instr.lookup 118 (.map (some r)) (.int .u8 k) false).run Try.prog w = .ok v w := by
  have hkey : Go.MapKept.IsKey (.int .u8) (.int .u8 k) := by simp [Go.MapKept.IsKey]
  simp [Instr.lookup, run_underlying Try.underlying118, Go.MapKept.run_getObj_map hb, Go.MapKept.run_checkKey Try.underlying5 hkey, Go.MapKept.run_findKey Try.underlying5 hk, Result.andThen]

theorem showI (n : Nat) (hn : n ≤ 5) (a : Fm) : ∀ (w : World), wfm n a → sizeF a ≤ 100 →
    Calls Try.prog 134 #[fmV a] w fun e w' => e = .returned (.string (showB a)) ∧ Below w.heap.size w w' := by
  induction a with
  | con c =>
    intro w hw hz
    rw [fmV]
    have T1 := fun (v : Value) (w : World) => ta_same Try.underlying111 (fun x h => by cases h) v 92 w
    rcases hw with rfl | rfl
    all_goals
      go_enter Try.func134, Try.ntmps134
      go_wp2_with fail
      go_ret
      exact ⟨rfl, (Below.refl _ _).alloc (Nat.le_refl _) _⟩
  | inp c =>
    intro w hw hz
    rw [fmV]
    have T1 := fun (v : Value) (w : World) => ta_other (t := 113) Try.underlying111 (fun x h => by cases h) z72 (by decide) v 92 w
    have T2 := fun (v : Value) (w : World) => ta_same Try.underlying113 (fun x h => by cases h) v 92 w
    have hc : c = 97 ∨ c = 98 ∨ c = 99 ∨ c = 100 ∨ c = 101 := by
      have h1 := hw.1; have h2 := hw.2
      rcases (show c.toNat = 97 ∨ c.toNat = 98 ∨ c.toNat = 99 ∨ c.toNat = 100 ∨ c.toNat = 101 by omega) with h | h | h | h | h
      · exact .inl (UInt8.toNat_inj.1 h)
      · exact .inr (.inl (UInt8.toNat_inj.1 h))
      · exact .inr (.inr (.inl (UInt8.toNat_inj.1 h)))
      · exact .inr (.inr (.inr (.inl (UInt8.toNat_inj.1 h))))
      · exact .inr (.inr (.inr (.inr (UInt8.toNat_inj.1 h))))
    clear hw
    rcases hc with rfl | rfl | rfl | rfl | rfl
    all_goals
      go_enter Try.func134, Try.ntmps134
      go_wp2_with fail
      go_ret
      exact ⟨rfl, (Below.refl _ _).alloc (Nat.le_refl _) _⟩
  | neg a ih =>
    intro w hw hz
    obtain ⟨tx, vx, hsh⟩ := fmV_shape a
    rw [fmV, hsh]
    rw [hsh] at ih
    have T1 := fun (v : Value) (w : World) => ta_other (t := 115) Try.underlying111 (fun x h => by cases h) z72 (by decide) v 92 w
    have T2 := fun (v : Value) (w : World) => ta_other (t := 115) Try.underlying113 (fun x h => by cases h) z74 (by decide) v 92 w
    have T3 := fun (v : Value) (w : World) => ta_same Try.underlying115 (fun x h => by cases h) v 92 w
    have IH := Lib.hid ih
    have HW := Lib.hid (show wfm n a from hw)
    have hz' : sizeF a ≤ 100 := by unfold sizeF at hz; omega
    have HZ := Lib.hid hz'
    have hsz := showB_size a hz'
    have HV := Lib.hid (show showB (.neg a) = ⟨#[110, 111, 116, 32]⟩ ++ showB a by unfold showB; rw [showL, ← ba_cat])
    clear ih hw hsh hz hz'
    generalize showB a = S at *
    go_enter Try.func134, Try.ntmps134
    go_wp2_with fail
    refine (IH.out _ HW.out HZ.out).mono ?_
    rintro e w2 ⟨rfl, hb2⟩
    go_wp2_with fail
    go_ret
    refine ⟨ret_str HV.out.symm, ?_⟩
    exact ((Below.refl _ _).alloc (Nat.le_refl _) _).trans (hb2.mono (by simp))
  | two c a b iha ihb =>
    intro w hw hz
    obtain ⟨ta, va, hsa⟩ := fmV_shape a
    obtain ⟨tb, vb, hsb⟩ := fmV_shape b
    rw [fmV, hsa, hsb]
    rw [hsa] at iha
    rw [hsb] at ihb
    have T1 := fun (v : Value) (w : World) => ta_other (t := 117) Try.underlying111 (fun x h => by cases h) z72 (by decide) v 92 w
    have T2 := fun (v : Value) (w : World) => ta_other (t := 117) Try.underlying113 (fun x h => by cases h) z74 (by decide) v 92 w
    have T3 := fun (v : Value) (w : World) => ta_other (t := 117) Try.underlying115 (fun x h => by cases h) z76 (by decide) v 92 w
    have T4 := fun (v : Value) (w : World) => ta_same Try.underlying117 (fun x h => by cases h) v 92 w
    have IHA := Lib.hid iha
    have IHB := Lib.hid ihb
    have HWA := Lib.hid hw.2.1
    have HWB := Lib.hid hw.2.2
    have hza : sizeF a ≤ 100 := by unfold sizeF at hz; omega
    have hzb : sizeF b ≤ 100 := by unfold sizeF at hz; omega
    have HZA := Lib.hid hza
    have HZB := Lib.hid hzb
    have hsA := showB_size a hza
    have hsB := showB_size b hzb
    have HV := Lib.hid (show showB (.two c a b) = ⟨#[40]⟩ ++ showB a ++ ⟨(wordL c).toArray⟩ ++ showB b ++ ⟨#[41]⟩ by unfold showB; rw [showL, ← ba_cat, ← ba_cat, ← ba_cat, ← ba_cat])
    have h3 := hw.1
    clear iha ihb hw hsa hsb hza hzb hz
    generalize showB a = SA at *
    generalize showB b = SB at *
    have hmm := @run_makeMap Try.prog
    obtain ⟨cc, hcc⟩ : ∃ cc : UInt8, cc = c := ⟨_, rfl⟩
    rw [← hcc] at HV
    have c256 := c.toNat_lt
    have HCC := Lib.hid hcc
    obtain ⟨C, hC⟩ : ∃ C, C = Obj.cells #[Value.int .u8 (c.toNat : Int), .iface ta va, .iface tb vb] 117 := ⟨_, rfl⟩
    have M1 := mu_run (w.alloc C) #[] 0 38 (.string ⟨#[32, 97, 110, 100, 32]⟩) (by rfl)
    have M2 := mu_run (w.alloc C) #[⟨.int .u8 38, .string ⟨#[32, 97, 110, 100, 32]⟩, 0⟩] 1 124 (.string ⟨#[32, 111, 114, 32]⟩) (by rfl)
    have M3 := mu_run (w.alloc C) #[⟨.int .u8 38, .string ⟨#[32, 97, 110, 100, 32]⟩, 0⟩, ⟨.int .u8 124, .string ⟨#[32, 111, 114, 32]⟩, 1⟩] 2 94 (.string ⟨#[32, 120, 111, 114, 32]⟩) (by rfl)
    have L : (Instr.lookup 118 (.map (some (w.alloc C).heap.size)) (.int .u8 (c.toNat : Int)) false).run Try.prog ((w.alloc C).alloc (.map #[⟨.int .u8 38, .string ⟨#[32, 97, 110, 100, 32]⟩, 0⟩, ⟨.int .u8 124, .string ⟨#[32, 111, 114, 32]⟩, 1⟩, ⟨.int .u8 94, .string ⟨#[32, 120, 111, 114, 32]⟩, 2⟩] 3)) = .ok (.string ⟨(wordL cc).toArray⟩) ((w.alloc C).alloc (.map #[⟨.int .u8 38, .string ⟨#[32, 97, 110, 100, 32]⟩, 0⟩, ⟨.int .u8 124, .string ⟨#[32, 111, 114, 32]⟩, 1⟩, ⟨.int .u8 94, .string ⟨#[32, 120, 111, 114, 32]⟩, 2⟩] 3)) := by
      rw [hcc]
      rcases h3 with rfl | rfl | rfl
      · exact lk_run _ _ _ _ _ _ 0 (Go.MapKept.heap_alloc (w.alloc C) _).1 (by rfl)
      · exact lk_run _ _ _ _ _ _ 1 (Go.MapKept.heap_alloc (w.alloc C) _).1 (by rfl)
      · exact lk_run _ _ _ _ _ _ 2 (Go.MapKept.heap_alloc (w.alloc C) _).1 (by rfl)
    have hwl : (⟨(wordL cc).toArray⟩ : ByteArray).size ≤ 5 := by have := wordL_len cc; show (wordL cc).toArray.size ≤ 5; simpa using this
    simp only [World.size_alloc, List.push_toArray, List.cons_append, List.nil_append, Nat.reduceAdd] at M1 M2 M3 L
    generalize (⟨(wordL cc).toArray⟩ : ByteArray) = SW at *
    subst hC
    clear hcc h3
    go_enter Try.func134, Try.ntmps134
    go_wp2_with fail
    clear M1 M2 M3 L hmm
    obtain ⟨W0, hW0⟩ : ∃ W0, (w.alloc (Obj.cells #[Value.int .u8 (c.toNat : Int), .iface ta va, .iface tb vb] 117)).alloc (Obj.map #[⟨.int .u8 38, .string ⟨#[32, 97, 110, 100, 32]⟩, 0⟩, ⟨.int .u8 124, .string ⟨#[32, 111, 114, 32]⟩, 1⟩, ⟨.int .u8 94, .string ⟨#[32, 120, 111, 114, 32]⟩, 2⟩] 3) = W0 := ⟨_, rfl⟩
    rw [hW0]
    have hwg : W0.heap[w.heap.size]? = some (Obj.cells #[Value.int .u8 (c.toNat : Int), .iface ta va, .iface tb vb] 117 (0, 0)) := by rw [← hW0, Below.heap_alloc _ _ _ (by simp)]; exact heap_alloc_new _ _
    have c1 : W0.cell? ⟨w.heap.size, 1, none⟩ = some (.iface ta va) := by rw [cell_of_row _ _ _ _ _ _ hwg]; rfl
    have c2 : W0.cell? ⟨w.heap.size, 2, none⟩ = some (.iface tb vb) := by rw [cell_of_row _ _ _ _ _ _ hwg]; rfl
    have hlt : w.heap.size < W0.heap.size := by rw [← hW0]; simp; omega
    have HB0 := Lib.hid (show Below w.heap.size w W0 by rw [← hW0]; exact ((Below.refl _ _).alloc (Nat.le_refl _) _).alloc (by simp) _)
    clear hW0 hwg
    have s1 : ¬ (9223372036854775807 < 1 + SA.size) := by omega
    have s2 : ¬ (9223372036854775807 < 1 + SA.size + SW.size) := by omega
    have s3 : ¬ (9223372036854775807 < 1 + SA.size + SW.size + SB.size) := by omega
    have s4 : ¬ (9223372036854775807 < 1 + SA.size + SW.size + SB.size + 1) := by omega
    go_region_held3 (fun w' => w'.cell? ⟨w.heap.size, 1, none⟩ = some (.iface ta va) ∧ w'.cell? ⟨w.heap.size, 2, none⟩ = some (.iface tb vb))
      (first
        | go_keep
        | exact ⟨(hb1.cell (p := ⟨w.heap.size, 1, none⟩) (by exact hlt)).trans c1, (hb1.cell (p := ⟨w.heap.size, 2, none⟩) (by exact hlt)).trans c2⟩
        | exact ⟨(hb2.cell (p := ⟨w.heap.size, 1, none⟩) (by exact Nat.lt_of_lt_of_le hlt hb1.size)).trans ((hb1.cell (p := ⟨w.heap.size, 1, none⟩) (by exact hlt)).trans c1), (hb2.cell (p := ⟨w.heap.size, 2, none⟩) (by exact Nat.lt_of_lt_of_le hlt hb1.size)).trans ((hb1.cell (p := ⟨w.heap.size, 2, none⟩) (by exact hlt)).trans c2)⟩)
      (first
        | (go_at_call 134; (with_reducible refine (IHA.out _ HWA.out HZA.out).mono ?_); rintro e w1 ⟨rfl, hb1⟩)
        | (go_at_call 134; (with_reducible refine (IHB.out _ HWB.out HZB.out).mono ?_); rintro e w2 ⟨rfl, hb2⟩))
    have hB1 : Below w.heap.size w w1 := HB0.out.trans ((show Below W0.heap.size W0 w1 from ⟨hb1.os, hb1.tape, hb1.output, hb1.size, hb1.block⟩).mono HB0.out.size)
    have hB2 : Below w.heap.size w w2 := hB1.trans (hb2.mono hB1.size)
    go_wp2_with fail
    go_ret
    exact ⟨ret_str (by rw [← HCC.out, HV.out]), hB2⟩

end Go.Proofs.Ytjpkpdihldcdaaa
