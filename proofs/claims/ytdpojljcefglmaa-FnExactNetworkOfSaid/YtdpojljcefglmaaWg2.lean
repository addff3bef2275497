/- Walks: is a text a formula. -/
import Derived.Test.YtdpojljcefglmaaWg
namespace Go.Proofs.Ytdpojljcefglmaa
set_option linter.unusedVariables false
set_option linter.unusedSimpArgs false
open Go.RowKit

theorem pf_suffix (n : Nat) : ∀ (k : Nat) (l : List UInt8) (a : Fm) (m : List UInt8), pf n k l = some (a, m) → m <:+ l := by
  intro k
  induction k with
  | zero => intro l a m h; cases h
  | succ k ih =>
    intro l a m h
    rcases l with _ | ⟨c, r⟩
    · cases h
    · rw [pf] at h
      split at h
      · injection h with h; injection h with h1 h2; subst h2; exact List.suffix_cons _ _
      · split at h
        · injection h with h; injection h with h1 h2; subst h2; exact List.suffix_cons _ _
        · split at h
          · split at h
            · cases h
            · next a' m' hh =>
              injection h with h; injection h with h1 h2; subst h2
              exact (ih _ _ _ hh).trans (List.suffix_cons _ _)
          · split at h
            · split at h
              · cases h
              · next a' m' hh =>
                split at h
                · cases h
                · next b q hq =>
                  injection h with h; injection h with h1 h2; subst h2
                  exact ((ih _ _ _ hq).trans (ih _ _ _ hh)).trans (List.suffix_cons _ _)
            · cases h

theorem fmOk_long (l : List UInt8) (n : Int) (h : 100 < l.length) : fmOk l n = false := by
  unfold fmOk; rw [show decide (l.length ≤ 100) = false by rw [decide_eq_false_iff_not]; omega]; simp
theorem fmOk_in (l : List UInt8) (n : Nat) (h : l.length ≤ 100) (h1 : 1 ≤ n) (h5 : n ≤ 5) : fmOk l (n : Int) = (match pf n 100 l with | some (_, []) => true | _ => false) := by
  unfold fmOk
  rw [show decide (l.length ≤ 100) = true by rw [decide_eq_true_eq]; omega, show decide (1 ≤ (n : Int)) = true by rw [decide_eq_true_eq]; omega, show decide ((n : Int) ≤ 5) = true by rw [decide_eq_true_eq]; omega, Int.toNat_natCast]
  rfl

/-- What the program hands back of a whole text. -/
def PPost (l : List UInt8) (n : Int) (w : World) (e : Ending) (w' : World) : Prop :=
  Below w.heap.size w w' ∧ ∃ (x : Value), (x = .nilIface ∨ ∃ t v, x = .iface t v) ∧ e = .returned (.tuple #[x, .bool (fmOk l n)]) ∧ (fmOk l n = true → ∃ a, x = fmV a ∧ pf n.toNat 100 l = some (a, []))

theorem parseI (e : ByteArray) (n : Int) (w : World) (he : e.size ≤ maxLen) :
    Calls Try.prog 32 #[.string e, .int .i64 n] w (PPost e.data.toList n w) := by
  unfold maxLen at he
  by_cases h100 : 100 < e.size
  · have H := Lib.hid (fmOk_long e.data.toList n h100)
    go_enter Try.func32, Try.ntmps32
    go_wp2_with fail
    go_ret2
    exact ⟨Below.refl _ _, _, .inl rfl, by rw [H.out]; rfl, fun h => by rw [H.out] at h; cases h⟩
  by_cases hok : 1 ≤ n ∧ n ≤ 5
  · obtain ⟨n, rfl⟩ := Int.eq_ofNat_of_zero_le (show 0 ≤ n by omega)
    have h1 : 1 ≤ n := by omega
    have h5 : n ≤ 5 := by omega
    have d1 : decide ((n : Int) < 1) = false := by simp; omega
    have d2 : decide ((5 : Int) < (n : Int)) = false := by simp; omega
    have h100' : e.size ≤ 100 := by omega
    have HF := Lib.hid (fmOk_in e.data.toList n h100' h1 h5)
    clear hok
    go_enter Try.func32, Try.ntmps32
    go_wp2_with fail
    refine (parseNodeI n h5 100 e _ h100' (Nat.le_refl _)).mono ?_
    rintro e2 w2 ⟨hb2, x, m, b, hx, rfl, hres⟩
    rcases hres with ⟨rfl, rfl, ho⟩ | ⟨rfl, a, hxa, ho⟩
    · have H := Lib.hid (show fmOk e.data.toList (n : Int) = false by rw [HF.out, ho])
      clear ho
      go_wp2_with fail
      go_ret2
      exact ⟨hb2, x, hx, by rw [H.out]; rfl, fun h => by rw [H.out] at h; cases h⟩
    · rcases m with _ | ⟨c, r⟩
      · have H := Lib.hid (show fmOk e.data.toList (n : Int) = true by rw [HF.out, ho])
        have HO := Lib.hid ho
        have HXA := Lib.hid hxa
        clear ho hxa
        go_wp2_with fail
        go_ret2
        exact ⟨hb2, x, hx, by rw [H.out]; rfl, fun h => ⟨a, HXA.out, by rw [Int.toNat_natCast]; exact HO.out⟩⟩
      · have H := Lib.hid (show fmOk e.data.toList (n : Int) = false by rw [HF.out, ho])
        obtain ⟨M, hM⟩ : ∃ M : ByteArray, M = ⟨(c :: r).toArray⟩ := ⟨_, rfl⟩
        have hme : M.toList.isEmpty = false := by rw [ByteArray.toList_eq, hM]; rfl
        rw [← hM]
        clear ho hxa hM
        go_wp2_with fail
        go_ret2
        exact ⟨hb2, x, hx, by rw [H.out]; rfl, fun h => by rw [H.out] at h; cases h⟩
  · have H := Lib.hid (show fmOk e.data.toList n = false by unfold fmOk; simp; omega)
    rcases Decidable.em (n < 1) with c1 | c1
    · clear hok
      go_enter Try.func32, Try.ntmps32
      go_wp2_with fail
      go_ret2
      exact ⟨Below.refl _ _, _, .inl rfl, by rw [H.out]; rfl, fun h => by rw [H.out] at h; cases h⟩
    · have c2 : 5 < n := by omega
      clear hok
      go_enter Try.func32, Try.ntmps32
      go_wp2_with fail
      go_ret2
      exact ⟨Below.refl _ _, _, .inl rfl, by rw [H.out]; rfl, fun h => by rw [H.out] at h; cases h⟩

theorem formulaValidI (e : ByteArray) (n : Int) (w : World) (he : e.size ≤ maxLen) :
    Calls Try.prog 14 #[.string e, .int .i64 n] w fun e' w' => e' = .returned (.bool (fmOk e.data.toList n)) ∧ Below w.heap.size w w' := by
  go_enter Try.func14, Try.ntmps14
  go_wp2_with fail
  refine (parseI e n _ he).mono ?_
  rintro e2 w2 ⟨hb2, x, _, rfl, _⟩
  go_wp2_with fail
  go_ret
  exact ⟨rfl, hb2⟩

end Go.Proofs.Ytdpojljcefglmaa
