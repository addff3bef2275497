/- Walks: the table of a formula, the reference. -/
import Derived.Test.YtdpojljcefglmaaWg5
import Derived.Test.YtdpojljcefglmaaWs2
namespace Go.Proofs.Ytdpojljcefglmaa
set_option linter.unusedVariables false
set_option linter.unusedSimpArgs false
open Go.RowKit

theorem pf_cases (n k : Nat) (c : UInt8) (r : List UInt8) (a : Fm) (m : List UInt8) (h : pf n (k + 1) (c :: r) = some (a, m)) :
    ((c = 48 ∨ c = 49) ∧ a = .con c ∧ m = r) ∨ (¬ (c = 48 ∨ c = 49) ∧ (97 ≤ c.toNat ∧ c.toNat < 97 + n) ∧ a = .inp c ∧ m = r) ∨ (c = 33 ∧ ∃ a', a = .neg a' ∧ pf n k r = some (a', m)) ∨ ((c = 38 ∨ c = 124 ∨ c = 94) ∧ ∃ a' b' m', a = .two c a' b' ∧ pf n k r = some (a', m') ∧ pf n k m' = some (b', m)) := by
  rw [pf] at h
  split at h
  · next hd => injection h with h; injection h with h1 h2; exact .inl ⟨hd, h1.symm, h2.symm⟩
  · next hd =>
    split at h
    · next hi => injection h with h; injection h with h1 h2; exact .inr (.inl ⟨hd, hi, h1.symm, h2.symm⟩)
    · split at h
      · next h33 =>
        split at h
        · cases h
        · next a' m' hh =>
          injection h with h; injection h with h1 h2; subst h2
          exact .inr (.inr (.inl ⟨h33, a', h1.symm, hh⟩))
      · split at h
        · next h3 =>
          split at h
          · cases h
          · next a' m' hh =>
            split at h
            · cases h
            · next b' q hq =>
              injection h with h; injection h with h1 h2; subst h2
              exact .inr (.inr (.inr ⟨h3, a', b', m', h1.symm, hh, hq⟩))
        · cases h

set_option maxHeartbeats 1000000 in
theorem l2ValueS (e : ByteArray) (n : Nat) (hn : n ≤ 5) (h100 : e.size ≤ 100) (s : Nat) (hs : s ≤ 65536) (k : Nat) : ∀ (p : Nat) (a : Fm) (m : List UInt8) (w : World), pf n k (e.data.toList.drop p) = some (a, m) →
    Calls Try.prog 33 #[.string e, .int .i64 (p : Int), .int .i64 (s : Int)] w fun e' w' => e' = .returned (.tuple #[.int .i64 ((ev a s : Nat) : Int), .int .i64 ((e.size - m.length : Nat) : Int)]) ∧ w = w' := by
  induction k with
  | zero => intro p a m w h; cases h
  | succ k ih =>
    intro p a m w h
    have hlt : p < e.size := by
      rcases Nat.lt_or_ge p e.size with h' | h'
      · exact h'
      · rw [List.drop_of_length_le (by exact h')] at h; cases h
    have IH := Lib.hid ih
    rw [drop_head e p hlt] at h
    obtain ⟨c, hc⟩ : ∃ c, e[p] = c := ⟨_, rfl⟩
    rw [hc] at h
    have HD1 := Lib.hid (show (e.data.toList.drop (p + 1)).length = e.size - (p + 1) by rw [List.length_drop]; rfl)
    have w1 : IntKind.i64.wrap ((p : Int) + 1) = ((p + 1 : Nat) : Int) := by rw [IntWalk.i64_in _ (by omega)]; omega
    have c256 : c.toNat < 256 := c.toNat_lt
    clear ih
    rcases pf_cases n k c _ a m h with ⟨hd, rfl, rfl⟩ | ⟨hd, hi, rfl, rfl⟩ | ⟨rfl, a', rfl, ho⟩ | ⟨h3, a', b', m', rfl, ho, ho2⟩
    · have HP := Lib.hid (show ((e.size - (e.data.toList.drop (p + 1)).length : Nat) : Int) = ((p + 1 : Nat) : Int) by rw [HD1.out]; omega)
      rw [HP.out]
      rcases hd with rfl | rfl
      all_goals
        go_enter Try.func33, Try.ntmps33
        go_wp2_with fail
        go_ret2
        exact ⟨rfl, rfl⟩
    · have HP := Lib.hid (show ((e.size - (e.data.toList.drop (p + 1)).length : Nat) : Int) = ((p + 1 : Nat) : Int) by rw [HD1.out]; omega)
      rw [HP.out]
      have g1 : ∀ v : Nat, v ≠ c.toNat → ((c.toNat : Int) == (v : Int)) = false := fun v hv => by simp; omega
      have n48 : ((c.toNat : Int) == 48) = false := g1 48 (by omega)
      have n49 : ((c.toNat : Int) == 49) = false := g1 49 (by omega)
      have n33 : ((c.toNat : Int) == 33) = false := g1 33 (by omega)
      have n38 : ((c.toNat : Int) == 38) = false := g1 38 (by omega)
      have n124 : ((c.toNat : Int) == 124) = false := g1 124 (by omega)
      have n94 : ((c.toNat : Int) == 94) = false := g1 94 (by omega)
      obtain ⟨q, hq⟩ : ∃ q, c.toNat = 97 + q := ⟨c.toNat - 97, by omega⟩
      have HV := Lib.hid (show ev (.inp c) s = bitN s q by unfold ev; rw [hq, Nat.add_sub_cancel_left])
      have q3 : IntKind.i64.wrap ((c.toNat : Int) - 97) = (q : Int) := by rw [IntWalk.i64_in _ (by omega)]; omega
      have hq5 : q ≤ 5 := by omega
      clear g1 hi hd hq
      go_enter Try.func33, Try.ntmps33
      go_wp2_with fail
      refine (l1BitS s q _ hs (by omega)).mono ?_
      rintro e1 w' ⟨rfl, rfl⟩
      go_wp2_with fail
      go_ret2
      exact ⟨by rw [HV.out]; rfl, rfl⟩
    · have hle := ev_le n s a' (pf_wf n k _ _ _ ho)
      have HO := Lib.hid ho
      have HV := Lib.hid (show ev (.neg a') s = 1 - ev a' s from rfl)
      have q3 : IntKind.i64.wrap (1 - ((ev a' s : Nat) : Int)) = ((1 - ev a' s : Nat) : Int) := by rw [IntWalk.i64_in _ (by omega)]; omega
      clear ho h
      go_enter Try.func33, Try.ntmps33
      go_wp2_with fail
      refine (IH.out (p + 1) a' m _ HO.out).mono ?_
      rintro e1 w' ⟨rfl, rfl⟩
      go_wp2_with fail
      go_ret2
      exact ⟨by rw [HV.out]; rfl, rfl⟩
    · have hla := ev_le n s a' (pf_wf n k _ _ _ ho)
      have hlb := ev_le n s b' (pf_wf n k _ _ _ ho2)
      have HO := Lib.hid ho
      have hsuf := (pf_suffix n k _ _ _ ho).trans (List.drop_suffix (p + 1) e.data.toList)
      have HM := Lib.hid (show e.data.toList.drop (e.size - m'.length) = m' from (List.suffix_iff_eq_drop.1 hsuf).symm)
      have HO2 := Lib.hid (show pf n k (e.data.toList.drop (e.size - m'.length)) = some (b', m) by rw [HM.out]; exact ho2)
      have HV := Lib.hid (show ev (.two c a' b') s = if c = 38 then min (ev a' s) (ev b' s) else if c = 124 then max (ev a' s) (ev b' s) else (ev a' s + ev b' s) % 2 from rfl)
      have K1 := Lib.hid (fun w => IH.out (p + 1) a' m' w HO.out)
      have K2 := Lib.hid (fun w => IH.out (e.size - m'.length) b' m w HO2.out)
      clear ho ho2 h hsuf HM HO HO2 IH
      generalize e.size - m'.length = p2 at *
      generalize e.size - m.length = p3 at *
      generalize ev a' s = x at *
      generalize ev b' s = y at *
      rcases (show x = 0 ∨ x = 1 by omega) with rfl | rfl
      all_goals
        rcases (show y = 0 ∨ y = 1 by omega) with rfl | rfl
        all_goals
          rcases h3 with rfl | rfl | rfl
          all_goals
            go_enter Try.func33, Try.ntmps33
            go_wp2_with fail
            refine (K1.out _).mono ?_
            rintro e1 w' ⟨rfl, rfl⟩
            go_wp2_with fail
            refine (K2.out _).mono ?_
            rintro e1 w' ⟨rfl, rfl⟩
            go_wp2_with fail
            go_ret2
            exact ⟨by rw [HV.out]; rfl, rfl⟩

end Go.Proofs.Ytdpojljcefglmaa
