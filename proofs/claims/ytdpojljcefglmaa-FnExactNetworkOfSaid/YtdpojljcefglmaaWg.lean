/- Walks: a formula is read, the program. -/
import Derived.Test.YtdpojljcefglmaaPf
import Derived.Test.YtdpojljcefglmaaWa
import Derived.Test.YtdpojljcefglmaaWq
import Derived.Test.YtdpojljcefglmaaWp
namespace Go.Proofs.Ytdpojljcefglmaa
set_option linter.unusedVariables false
set_option linter.unusedSimpArgs false
open Go.RowKit

theorem empty_of (e : ByteArray) (h : e.size = 0) : e = ⟨#[]⟩ := by
  have : e.data.toList.length = 0 := h
  cases e with | mk d => cases d with | mk l => simp at this; subst this; rfl
theorem list_head (e : ByteArray) (h : 0 < e.size) : e.data.toList = e[0] :: (e.extract 1 e.size).data.toList := by
  have h' : 0 < e.data.toList.length := h
  have e1 : (e.extract 1 e.size).data.toList = e.data.toList.drop 1 := by
    rw [ByteArray.data_extract, Array.toList_extract, List.extract_eq_drop_take']
    rw [List.take_of_length_le (by exact Nat.le_refl _)]
  rw [e1]
  rcases hl : e.data.toList with _ | ⟨a, r⟩
  · rw [hl] at h'; cases h'
  · have : e[0] = e.data.toList[0] := rfl
    rw [this]; simp [hl]

/-- What the program builds of a formula. -/
def fmV : Fm → Value
  | .con c => .iface 72 (.agg #[.int .u8 ((c.toNat : Int) - 48)])
  | .inp c => .iface 74 (.agg #[.int .i64 ((c.toNat : Int) - 97)])
  | .neg a => .iface 76 (.agg #[fmV a])
  | .two c a b => .iface 78 (.agg #[.int .u8 (c.toNat : Int), fmV a, fmV b])

/-- What reading a formula hands back. -/
def PnPost (o : Option (Fm × List UInt8)) (w : World) (e : Ending) (w' : World) : Prop :=
  Below w.heap.size w w' ∧ ∃ (x : Value) (m : List UInt8) (b : Bool), (x = .nilIface ∨ ∃ t v, x = .iface t v) ∧ e = .returned (.tuple #[x, .string ⟨m.toArray⟩, .bool b]) ∧ ((b = false ∧ m = [] ∧ o = none) ∨ (b = true ∧ ∃ a, x = fmV a ∧ o = some (a, m)))

theorem fmV_shape (a : Fm) : ∃ t v, fmV a = .iface t v := by cases a <;> exact ⟨_, _, rfl⟩

set_option maxHeartbeats 1000000 in
theorem parseNodeI (n : Nat) (hn : n ≤ 5) (k : Nat) : ∀ (e : ByteArray) (w : World), e.size ≤ k → k ≤ 100 →
    Calls Try.prog 54 #[.string e, .int .i64 (n : Int)] w (PnPost (pf n k e.data.toList) w) := by
  induction k with
  | zero =>
    intro e w hk h100
    obtain rfl : e = ⟨#[]⟩ := empty_of e (by omega)
    go_enter Try.func54, Try.ntmps54
    go_wp2_with fail
    go_ret3
    exact ⟨Below.refl _ _, _, [], false, .inl rfl, rfl, .inl ⟨rfl, rfl, rfl⟩⟩
  | succ k ih =>
    intro e w hk h100
    by_cases hz : e.size = 0
    · obtain rfl : e = ⟨#[]⟩ := empty_of e hz
      go_enter Try.func54, Try.ntmps54
      go_wp2_with fail
      go_ret3
      exact ⟨Below.refl _ _, _, [], false, .inl rfl, rfl, .inl ⟨rfl, rfl, rfl⟩⟩
    have h1 : 0 < e.size := by omega
    have h2 : (1 : Int) ≤ (e.size : Int) := by omega
    have h3 : 1 ≤ e.size := by omega
    have h0 : e.toList.isEmpty = false := by
      rw [ByteArray.toList_eq]
      have : e.data.toList ≠ [] := by intro h; have : e.data.toList.length = 0 := by rw [h]; rfl
                                      have : e.size = 0 := this; omega
      simpa using this
    have HE := Lib.hid (list_head e h1)
    obtain ⟨R, hR⟩ : ∃ R, R = e.extract 1 e.size := ⟨_, rfl⟩
    rw [← hR] at HE
    have hRs : R.size ≤ k := by rw [hR, ByteArray.size_extract]; omega
    have HR := Lib.hid hR.symm
    have IH := Lib.hid ih
    clear ih hR hz
    obtain ⟨c, hc⟩ : ∃ c, e[0] = c := ⟨_, rfl⟩
    rw [hc] at HE
    rw [HE.out]
    have c256 : c.toNat < 256 := c.toNat_lt
    by_cases hd : c = 48 ∨ c = 49
    · have HP := Lib.hid (pf_con n k c R.data.toList hd)
      rcases hd with rfl | rfl
      all_goals
        go_enter Try.func54, Try.ntmps54
        go_wp2_with fail
        go_quiet (fail)
        rw [HR.out]
        go_wp2_with fail
        go_ret3
        exact ⟨⟨rfl, rfl, rfl, Nat.le_refl _, fun _ _ => rfl⟩, _, R.data.toList, true, .inr ⟨_, _, rfl⟩, rfl, .inr ⟨rfl, _, rfl, HP.out⟩⟩
    have n48 : ((c.toNat : Int) == 48) = false := by
      have : c.toNat ≠ 48 := fun h => hd (.inl (UInt8.toNat_inj.1 h))
      simp; omega
    have n49 : ((c.toNat : Int) == 49) = false := by
      have : c.toNat ≠ 49 := fun h => hd (.inr (UInt8.toNat_inj.1 h))
      simp; omega
    have HD := Lib.hid hd
    clear hd
    by_cases hi : 97 ≤ c.toNat ∧ c.toNat < 97 + n
    · have HP := Lib.hid (pf_inp n k c R.data.toList HD.out hi)
      have q1 : (97 : Int) ≤ (c.toNat : Int) := by omega
      have q2 : IntKind.u8.wrap ((c.toNat : Int) - 97) = (c.toNat : Int) - 97 := IntWalk.u8_in _ (by omega)
      have q3 : IntKind.i64.wrap ((c.toNat : Int) - 97) = (c.toNat : Int) - 97 := IntWalk.i64_in _ (by omega)
      have q4 : (c.toNat : Int) - 97 < (n : Int) := by omega
      clear hi
      go_enter Try.func54, Try.ntmps54
      go_wp2_with fail
      go_quiet (fail)
      rw [HR.out]
      go_wp2_with fail
      go_ret3
      exact ⟨⟨rfl, rfl, rfl, Nat.le_refl _, fun _ _ => rfl⟩, _, R.data.toList, true, .inr ⟨_, _, rfl⟩, rfl, .inr ⟨rfl, _, rfl, HP.out⟩⟩
    have HI := Lib.hid hi
    by_cases h33 : c = 33
    · subst h33
      have HP := Lib.hid (pf_neg n k R.data.toList)
      clear hi
      go_enter Try.func54, Try.ntmps54
      go_wp2_with fail
      go_quiet (fail)
      rw [HR.out]
      have hB : Below w.heap.size w (w.drewN nq) := ⟨rfl, rfl, rfl, Nat.le_refl _, fun _ _ => rfl⟩
      generalize w.drewN nq = wd at *
      go_wp2_with fail
      refine (IH.out R _ hRs (by omega)).mono ?_
      rintro e2 w2 ⟨hb2, x, m, b, hx, rfl, hres⟩
      have HX := Lib.hid hres
      have hB2 := hB.trans (hb2.mono hB.size)
      clear hres hB hb2
      rcases hx with rfl | ⟨tx, vx, rfl⟩
      all_goals
        go_wp2_with fail
        go_ret3
        refine ⟨hB2, _, m, b, .inr ⟨_, _, rfl⟩, rfl, ?_⟩
        rcases HX.out with ⟨rfl, rfl, ho⟩ | ⟨rfl, a, hxa, ho⟩
        · exact .inl ⟨rfl, rfl, by rw [HP.out, ho]⟩
        · exact .inr ⟨rfl, .neg a, by rw [fmV, ← hxa], by rw [HP.out, ho]⟩
    have n33 : ((c.toNat : Int) == 33) = false := by
      have : c.toNat ≠ 33 := fun h => h33 (UInt8.toNat_inj.1 h)
      simp; omega
    by_cases h3 : c = 38 ∨ c = 124 ∨ c = 94
    · have HP := Lib.hid (pf_two n k c R.data.toList hi h3)
      have q124 : ¬ ((27 : Int) < (n : Int)) := by omega
      clear hi
      obtain ⟨c0, hc0⟩ : ∃ c0, c0 = c := ⟨_, rfl⟩
      have HC0 := Lib.hid hc0
      clear hc0
      rcases h3 with rfl | rfl | rfl
      all_goals
        go_enter Try.func54, Try.ntmps54
        go_wp2_with fail
        go_quiet (fail)
        rw [HR.out]
        have hB : Below w.heap.size w (w.drewN nq) := ⟨rfl, rfl, rfl, Nat.le_refl _, fun _ _ => rfl⟩
        generalize w.drewN nq = wd at *
        go_wp2_with fail
        refine (IH.out R _ hRs (by omega)).mono ?_
        rintro e2 w2 ⟨hb2, x, m, b, hx, rfl, hres⟩
        have hB2 := hB.trans (hb2.mono hB.size)
        clear hB hb2
        rcases hres with ⟨rfl, rfl, ho⟩ | ⟨rfl, a, hxa, ho⟩
        · have HO := Lib.hid ho
          clear ho
          go_wp2_with fail
          go_ret3
          exact ⟨hB2, _, [], false, .inl rfl, rfl, .inl ⟨rfl, rfl, by rw [HP.out, HO.out]⟩⟩
        · have HO := Lib.hid ho
          have HXA := Lib.hid hxa
          have hml : (⟨m.toArray⟩ : ByteArray).size ≤ k := by have h1 := pf_len n k _ _ _ ho; have h2 : R.data.toList.length = R.size := rfl; show m.length ≤ k; omega
          have HML := Lib.hid hml
          obtain ⟨tx, vx, hsh⟩ := fmV_shape a
          rw [hsh] at HXA
          have HSH := Lib.hid hsh
          rw [HXA.out]
          clear ho hxa hml hsh
          go_wp2_with fail
          refine (IH.out ⟨m.toArray⟩ _ HML.out (by omega)).mono ?_
          rintro e3 w3 ⟨hb3, y, m2, b2, hy, rfl, hres⟩
          have HY := Lib.hid hres
          have hB3 := hB2.trans (hb3.mono hB2.size)
          clear hres hB2 hb3
          rcases hy with rfl | ⟨ty, vy, rfl⟩
          all_goals
            go_wp2_with fail
            go_ret3
            refine ⟨hB3, _, m2, b2, .inr ⟨_, _, rfl⟩, rfl, ?_⟩
            rcases HY.out with ⟨rfl, rfl, ho⟩ | ⟨rfl, b', hyb, ho⟩
            · exact .inl ⟨rfl, rfl, by rw [HP.out, HO.out]; simp only []; rw [show pf n k m = none from ho]⟩
            · exact .inr ⟨rfl, .two c0 a b', by rw [HC0.out, fmV, ← hyb, HSH.out]; rfl, by rw [HC0.out, HP.out, HO.out]; simp only []; rw [show pf n k m = _ from ho]⟩
    have HP := Lib.hid (pf_no n k c R.data.toList HD.out hi h33 h3)
    have n38 : ((c.toNat : Int) == 38) = false := by
      have : c.toNat ≠ 38 := fun h => h3 (.inl (UInt8.toNat_inj.1 h))
      simp; omega
    have n124 : ((c.toNat : Int) == 124) = false := by
      have : c.toNat ≠ 124 := fun h => h3 (.inr (.inl (UInt8.toNat_inj.1 h)))
      simp; omega
    have n94 : ((c.toNat : Int) == 94) = false := by
      have : c.toNat ≠ 94 := fun h => h3 (.inr (.inr (UInt8.toNat_inj.1 h)))
      simp; omega
    rcases Nat.lt_or_ge c.toNat 97 with hlo | hlo
    · have q1 : ¬ (97 : Int) ≤ (c.toNat : Int) := by omega
      have q1' : decide ((97 : Int) ≤ (c.toNat : Int)) = false := by simp; omega
      clear hi h33 h3
      go_enter Try.func54, Try.ntmps54
      go_wp2_with fail
      go_quiet (fail)
      rw [HR.out]
      go_wp2_with fail
      go_ret3
      exact ⟨⟨rfl, rfl, rfl, Nat.le_refl _, fun _ _ => rfl⟩, _, [], false, .inl rfl, rfl, .inl ⟨rfl, rfl, HP.out⟩⟩
    · have q1 : (97 : Int) ≤ (c.toNat : Int) := by omega
      have q2 : IntKind.u8.wrap ((c.toNat : Int) - 97) = (c.toNat : Int) - 97 := IntWalk.u8_in _ (by omega)
      have q3 : IntKind.i64.wrap ((c.toNat : Int) - 97) = (c.toNat : Int) - 97 := IntWalk.i64_in _ (by omega)
      have q4 : ¬ ((c.toNat : Int) - 97 < (n : Int)) := by omega
      have q4' : decide ((c.toNat : Int) - 97 < (n : Int)) = false := by simp; omega
      clear hi h33 h3
      go_enter Try.func54, Try.ntmps54
      go_wp2_with fail
      go_quiet (fail)
      rw [HR.out]
      go_wp2_with fail
      go_ret3
      exact ⟨⟨rfl, rfl, rfl, Nat.le_refl _, fun _ _ => rfl⟩, _, [], false, .inl rfl, rfl, .inl ⟨rfl, rfl, HP.out⟩⟩

end Go.Proofs.Ytdpojljcefglmaa
