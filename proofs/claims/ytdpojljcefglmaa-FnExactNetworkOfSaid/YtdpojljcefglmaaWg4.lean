/- Walks: the value of a formula, the program. -/
import Derived.Test.YtdpojljcefglmaaWg3
import Derived.Deep.RegionHeld3
namespace Go.Proofs.Ytdpojljcefglmaa
set_option linter.unusedVariables false
set_option linter.unusedSimpArgs false
open Go.RowKit

/-- The value of a formula for a state. -/
def ev : Fm → Nat → Nat
  | .con c, _ => c.toNat - 48
  | .inp c, s => bitN s (c.toNat - 97)
  | .neg a, s => 1 - ev a s
  | .two c a b, s => if c = 38 then min (ev a s) (ev b s) else if c = 124 then max (ev a s) (ev b s) else (ev a s + ev b s) % 2

/-- A formula's signs are those of a text. -/
def wfm (n : Nat) : Fm → Prop
  | .con c => c = 48 ∨ c = 49
  | .inp c => 97 ≤ c.toNat ∧ c.toNat < 97 + n
  | .neg a => wfm n a
  | .two c a b => (c = 38 ∨ c = 124 ∨ c = 94) ∧ wfm n a ∧ wfm n b

theorem ev_le (n : Nat) (s : Nat) : ∀ a : Fm, wfm n a → ev a s ≤ 1 := by
  intro a
  induction a with
  | con c => intro h; rcases h with rfl | rfl <;> simp [ev]
  | inp c => intro h; exact bitN_le _ _
  | neg a ih => intro h; simp [ev]
  | two c a b iha ihb =>
    intro h
    have h1 := iha h.2.1
    have h2 := ihb h.2.2
    unfold ev
    split
    · omega
    · split <;> omega

theorem pf_wf (n : Nat) : ∀ (k : Nat) (l : List UInt8) (a : Fm) (m : List UInt8), pf n k l = some (a, m) → wfm n a := by
  intro k
  induction k with
  | zero => intro l a m h; cases h
  | succ k ih =>
    intro l a m h
    rcases l with _ | ⟨c, r⟩
    · cases h
    · rw [pf] at h
      split at h
      · next hd => injection h with h; injection h with h1 h2; subst h1; exact hd
      · split at h
        · next hi => injection h with h; injection h with h1 h2; subst h1; exact hi
        · split at h
          · split at h
            · cases h
            · next a' m' hh =>
              injection h with h; injection h with h1 h2; subst h1
              exact ih r a' m' hh
          · split at h
            · next h3 =>
              split at h
              · cases h
              · next a' m' hh =>
                split at h
                · cases h
                · next b q hq =>
                  injection h with h; injection h with h1 h2; subst h1
                  exact ⟨h3, ih _ _ _ hh, ih _ _ _ hq⟩
            · cases h

theorem ta_same {P : Program} {T : TypeId} {d : TypeDesc} (hu : P.underlying T = some d) (hd : ∀ x, d ≠ .interface x) (v : Value) (xT : TypeId) (w : World) : (Instr.typeAssert (.iface T v) xT T true).run P w = .ok (.tuple #[v, .bool true]) w := by
  cases d <;> first | (exact absurd rfl (hd _)) | simp [Instr.typeAssert, run_underlying hu]
theorem ta_other {P : Program} {T t : TypeId} {d : TypeDesc} {z : Value} (hu : P.underlying T = some d) (hd : ∀ x, d ≠ .interface x) (hz : (P.info? T).map (·.zero) = some (some z)) (ht : t ≠ T) (v : Value) (xT : TypeId) (w : World) : (Instr.typeAssert (.iface t v) xT T true).run P w = .ok (.tuple #[z, .bool false]) w := by
  obtain ⟨i, hi, hz⟩ := Option.map_eq_some_iff.1 hz
  cases d <;> first | (exact absurd rfl (hd _)) | simp [Instr.typeAssert, run_underlying hu, ht, zeroValue, typeInfo, hi, hz]

theorem z72 : (Try.prog.info? 72).map (·.zero) = some (some (.agg #[.int .u8 0])) := by kernel_rfl
theorem z74 : (Try.prog.info? 74).map (·.zero) = some (some (.agg #[.int .i64 0])) := by kernel_rfl
theorem z76 : (Try.prog.info? 76).map (·.zero) = some (some (.agg #[.nilIface])) := by kernel_rfl

theorem evalI (n : Nat) (hn : n ≤ 5) (s : Nat) (hs : s ≤ 65536) (a : Fm) : ∀ (w : World), wfm n a →
    Calls Try.prog 37 #[fmV a, .int .i64 (s : Int)] w fun e w' => e = .returned (.int .u8 ((ev a s : Nat) : Int)) ∧ Below w.heap.size w w' := by
  induction a with
  | con c =>
    intro w hw
    rw [fmV]
    have T1 := fun (v : Value) (w : World) => ta_same Try.underlying72 (fun x h => by cases h) v 40 w
    rcases hw with rfl | rfl
    all_goals
      go_enter Try.func37, Try.ntmps37
      go_wp2_with fail
      go_ret
      exact ⟨rfl, (Below.refl _ _).alloc (Nat.le_refl _) _⟩
  | inp c =>
    intro w hw
    rw [fmV]
    have T1 := fun (v : Value) (w : World) => ta_other (t := 74) Try.underlying72 (fun x h => by cases h) z72 (by decide) v 40 w
    have T2 := fun (v : Value) (w : World) => ta_same Try.underlying74 (fun x h => by cases h) v 40 w
    obtain ⟨q, hq⟩ : ∃ q, c.toNat = 97 + q := ⟨c.toNat - 97, by have := hw.1; omega⟩
    have hq5 : q ≤ 5 := by have := hw.2; omega
    have HV := Lib.hid (show ev (.inp c) s = bitN s q by unfold ev; rw [hq, Nat.add_sub_cancel_left])
    rw [show (c.toNat : Int) - 97 = (q : Int) by omega]
    have E := Lib.hid (bit_and s q (by omega))
    have hbl := bitN_le s q
    clear hw hq
    go_enter Try.func37, Try.ntmps37
    go_wp2_with fail
    go_ret
    exact ⟨ret_int (by rw [HV.out, E.out]; omega), (Below.refl _ _).alloc (Nat.le_refl _) _⟩
  | neg a ih =>
    intro w hw
    obtain ⟨tx, vx, hsh⟩ := fmV_shape a
    rw [fmV, hsh]
    rw [hsh] at ih
    have T1 := fun (v : Value) (w : World) => ta_other (t := 76) Try.underlying72 (fun x h => by cases h) z72 (by decide) v 40 w
    have T2 := fun (v : Value) (w : World) => ta_other (t := 76) Try.underlying74 (fun x h => by cases h) z74 (by decide) v 40 w
    have T3 := fun (v : Value) (w : World) => ta_same Try.underlying76 (fun x h => by cases h) v 40 w
    have IH := Lib.hid ih
    have HW := Lib.hid (show wfm n a from hw)
    have hle := ev_le n s a hw
    have HV := Lib.hid (show ev (.neg a) s = 1 - ev a s from rfl)
    clear ih hw hsh
    generalize ev a s = q at *
    have w1 : IntKind.u8.wrap (1 - (q : Int)) = 1 - (q : Int) := IntWalk.u8_in _ (by omega)
    go_enter Try.func37, Try.ntmps37
    go_wp2_with fail
    refine (IH.out _ HW.out).mono ?_
    rintro e w2 ⟨rfl, hb2⟩
    go_wp2_with fail
    go_ret
    refine ⟨ret_int (by rw [HV.out]; omega), ?_⟩
    exact ((Below.refl _ _).alloc (Nat.le_refl _) _).trans (hb2.mono (by simp))
  | two c a b iha ihb =>
    intro w hw
    obtain ⟨ta, va, hsa⟩ := fmV_shape a
    obtain ⟨tb, vb, hsb⟩ := fmV_shape b
    rw [fmV, hsa, hsb]
    rw [hsa] at iha
    rw [hsb] at ihb
    have T1 := fun (v : Value) (w : World) => ta_other (t := 78) Try.underlying72 (fun x h => by cases h) z72 (by decide) v 40 w
    have T2 := fun (v : Value) (w : World) => ta_other (t := 78) Try.underlying74 (fun x h => by cases h) z74 (by decide) v 40 w
    have T3 := fun (v : Value) (w : World) => ta_other (t := 78) Try.underlying76 (fun x h => by cases h) z76 (by decide) v 40 w
    have T4 := fun (v : Value) (w : World) => ta_same Try.underlying78 (fun x h => by cases h) v 40 w
    have IHA := Lib.hid iha
    have IHB := Lib.hid ihb
    have HWA := Lib.hid hw.2.1
    have HWB := Lib.hid hw.2.2
    have hla := ev_le n s a hw.2.1
    have hlb := ev_le n s b hw.2.2
    have HV := Lib.hid (show ev (.two c a b) s = if c = 38 then min (ev a s) (ev b s) else if c = 124 then max (ev a s) (ev b s) else (ev a s + ev b s) % 2 from rfl)
    have h3 := hw.1
    clear iha ihb hw hsa hsb
    generalize ev a s = p at *
    generalize ev b s = q at *
    go_enter Try.func37, Try.ntmps37
    go_wp2_with fail
    obtain ⟨W0, hW0⟩ : ∃ W0, w.alloc (Obj.cells #[Value.int .u8 (c.toNat : Int), .iface ta va, .iface tb vb] 78) = W0 := ⟨_, rfl⟩
    rw [hW0]
    have c0 : W0.cell? ⟨w.heap.size, 0, none⟩ = some (.int .u8 (c.toNat : Int)) := by rw [← hW0, cell_of_row _ _ _ _ _ _ (heap_alloc_new _ _)]; rfl
    have c1 : W0.cell? ⟨w.heap.size, 1, none⟩ = some (.iface ta va) := by rw [← hW0, cell_of_row _ _ _ _ _ _ (heap_alloc_new _ _)]; rfl
    have c2 : W0.cell? ⟨w.heap.size, 2, none⟩ = some (.iface tb vb) := by rw [← hW0, cell_of_row _ _ _ _ _ _ (heap_alloc_new _ _)]; rfl
    have hlt : w.heap.size < W0.heap.size := by rw [← hW0]; simp
    have HB0 := Lib.hid (show Below w.heap.size w W0 by rw [← hW0]; exact (Below.refl _ _).alloc (Nat.le_refl _) _)
    have HC0 := Lib.hid c0
    clear hW0 c0
    go_region_held3 (fun w' => w'.cell? ⟨w.heap.size, 1, none⟩ = some (.iface ta va) ∧ w'.cell? ⟨w.heap.size, 2, none⟩ = some (.iface tb vb))
      (first
        | go_keep
        | exact ⟨(hb1.cell (p := ⟨w.heap.size, 1, none⟩) (by exact hlt)).trans c1, (hb1.cell (p := ⟨w.heap.size, 2, none⟩) (by exact hlt)).trans c2⟩
        | exact ⟨(hb2.cell (p := ⟨w.heap.size, 1, none⟩) (by exact Nat.lt_of_lt_of_le hlt hb1.size)).trans ((hb1.cell (p := ⟨w.heap.size, 1, none⟩) (by exact hlt)).trans c1), (hb2.cell (p := ⟨w.heap.size, 2, none⟩) (by exact Nat.lt_of_lt_of_le hlt hb1.size)).trans ((hb1.cell (p := ⟨w.heap.size, 2, none⟩) (by exact hlt)).trans c2)⟩)
      (first
        | (go_at_call 37; (with_reducible refine (IHA.out _ HWA.out).mono ?_); rintro e w1 ⟨rfl, hb1⟩)
        | (go_at_call 37; (with_reducible refine (IHB.out _ HWB.out).mono ?_); rintro e w2 ⟨rfl, hb2⟩))
    have hB1 : Below w.heap.size w w1 := HB0.out.trans ((show Below W0.heap.size W0 w1 from ⟨hb1.os, hb1.tape, hb1.output, hb1.size, hb1.block⟩).mono HB0.out.size)
    have hB2 : Below w.heap.size w w2 := hB1.trans (hb2.mono hB1.size)
    have k0 : w2.cell? ⟨w.heap.size, 0, none⟩ = some (.int .u8 (c.toNat : Int)) := (hb2.cell (p := ⟨w.heap.size, 0, none⟩) (by exact Nat.lt_of_lt_of_le hlt hb1.size)).trans ((hb1.cell (p := ⟨w.heap.size, 0, none⟩) (by exact hlt)).trans HC0.out)
    clear hb1 hb2 c1 c2 hB1
    rcases (show p = 0 ∨ p = 1 by omega) with rfl | rfl
    all_goals
      rcases (show q = 0 ∨ q = 1 by omega) with rfl | rfl
      all_goals
        rcases h3 with rfl | rfl | rfl
        all_goals
          go_wp2_with fail
          go_ret
          exact ⟨ret_int (by rw [HV.out]; rfl), hB2⟩

end Go.Proofs.Ytdpojljcefglmaa
