/- Walks: a formula in the usual form, the reference. -/
import Derived.Test.YtjpkpdihldcdaaaWg8
namespace Go.Proofs.Ytjpkpdihldcdaaa
set_option linter.unusedVariables false
set_option linter.unusedSimpArgs false
open Go.RowKit

theorem showFormulaI (e : ByteArray) (n : Int) (w : World) (he : e.size ≤ maxLen) :
    Calls Try.prog 70 #[.string e, .int .i64 n] w fun e' w' => e' = .returned (.string (strI (fmOk e.data.toList n) (showL (fmOf e.data.toList n.toNat)))) ∧ Below w.heap.size w w' := by
  go_enter Try.func70, Try.ntmps70
  go_wp2_with fail
  refine (parseI e n _ he).mono ?_
  rintro e2 w2 ⟨hb2, x, hsx, rfl, hx⟩
  have HX := Lib.hid hx
  clear hx
  cases hok : fmOk e.data.toList n
  · clear HX
    rcases hsx with rfl | ⟨tx, vx, rfl⟩
    all_goals
      go_wp2_with fail
      go_ret
      exact ⟨by rw [hok]; rfl, hb2⟩
  · obtain ⟨a, hxa, hpf⟩ := HX.out hok
    obtain ⟨tx, vx, hsh⟩ := fmV_shape a
    have hr := fmOk_range _ _ hok
    obtain ⟨m, a', hm, _, _, h100, hpf'⟩ := fmOk_parts _ _ hok
    subst hm
    have h5 : m ≤ 5 := by omega
    rw [Int.toNat_natCast] at hpf
    have HTO := Lib.hid (show fmOf e.data.toList ((m : Nat) : Int).toNat = a by unfold fmOf; rw [Int.toNat_natCast, hpf])
    have HSZ := Lib.hid (show sizeF a ≤ 100 by have := pf_size m 100 _ _ _ hpf; omega)
    have KEY := Lib.hid (showI m h5 a w2 (pf_wf m 100 _ _ _ hpf) HSZ.out)
    rw [hsh] at KEY
    have HOK := Lib.hid hok
    rw [hxa, hsh]
    clear HX hxa hsx hsh hpf hr h100 hpf' hok
    go_wp2_with fail
    refine KEY.out.mono ?_
    rintro e4 w4 ⟨rfl, hb4⟩
    go_wp2_with fail
    go_ret
    refine ⟨?_, ?_⟩
    · rw [HOK.out, strI_true, HTO.out]; rfl
    · exact hb2.trans (hb4.mono hb2.size)

theorem sub_one (e : ByteArray) (p : Nat) (h : p < e.size) : e.extract p (p + 1) = ⟨#[e[p]]⟩ := by
  apply ByteArray.ext
  rw [ByteArray.data_extract]
  apply Array.ext
  · simp; show min (p + 1) e.size - p = 1; omega
  · intro i h1 h2
    have : i = 0 := by simpa using h2
    subst this
    simp
    rfl

set_option maxHeartbeats 1000000 in
theorem l2ShowS (e : ByteArray) (n : Nat) (hn : n ≤ 5) (h100 : e.size ≤ 100) (k : Nat) : ∀ (p : Nat) (a : Fm) (m : List UInt8) (w : World), pf n k (e.data.toList.drop p) = some (a, m) →
    Calls Try.prog 135 #[.string e, .int .i64 (p : Int)] w fun e' w' => e' = .returned (.tuple #[.string (showB a), .int .i64 ((e.size - m.length : Nat) : Int)]) ∧ w = w' := by
  induction k with
  | zero => intro p a m w h; cases h
  | succ k ih =>
    intro p a m w h
    have hlt : p < e.size := by
      rcases Nat.lt_or_ge p e.size with h' | h'
      · exact h'
      · rw [List.drop_of_length_le (by exact h')] at h; cases h
    have IH := Lib.hid ih
    have hdl : (e.data.toList.drop p).length = e.size - p := by rw [List.length_drop]; rfl
    have hsz := pf_size n (k + 1) _ _ _ h
    rw [hdl] at hsz
    rw [drop_head e p hlt] at h
    obtain ⟨c, hc⟩ : ∃ c, e[p] = c := ⟨_, rfl⟩
    rw [hc] at h
    have HD1 := Lib.hid (show (e.data.toList.drop (p + 1)).length = e.size - (p + 1) by rw [List.length_drop]; rfl)
    have w1 : IntKind.i64.wrap ((p : Int) + 1) = ((p + 1 : Nat) : Int) := by rw [IntWalk.i64_in _ (by omega)]; omega
    have c256 : c.toNat < 256 := c.toNat_lt
    have hex := sub_one e p hlt
    rw [hc] at hex
    have HEX := Lib.hid hex
    clear ih hdl hex
    rcases pf_cases n k c _ a m h with ⟨hd, rfl, rfl⟩ | ⟨hd, hi, rfl, rfl⟩ | ⟨rfl, a', rfl, ho⟩ | ⟨h3, a', b', m', rfl, ho, ho2⟩
    · have HP := Lib.hid (show ((e.size - (e.data.toList.drop (p + 1)).length : Nat) : Int) = ((p + 1 : Nat) : Int) by rw [HD1.out]; omega)
      rw [HP.out]
      have HS := Lib.hid (show showB (.con c) = ⟨#[c]⟩ from rfl)
      rcases hd with rfl | rfl
      all_goals
        go_enter Try.func135, Try.ntmps135
        go_wp2_with fail
        go_ret2
        exact ⟨by rw [HS.out, ← HEX.out]; rfl, rfl⟩
    · have HP := Lib.hid (show ((e.size - (e.data.toList.drop (p + 1)).length : Nat) : Int) = ((p + 1 : Nat) : Int) by rw [HD1.out]; omega)
      rw [HP.out]
      have HS := Lib.hid (show showB (.inp c) = ⟨#[c]⟩ from rfl)
      have g1 : ∀ v : Nat, v ≠ c.toNat → ((c.toNat : Int) == (v : Int)) = false := fun v hv => by simp; omega
      have n33 : ((c.toNat : Int) == 33) = false := g1 33 (by omega)
      have n38 : ((c.toNat : Int) == 38) = false := g1 38 (by omega)
      have n124 : ((c.toNat : Int) == 124) = false := g1 124 (by omega)
      have n94 : ((c.toNat : Int) == 94) = false := g1 94 (by omega)
      clear g1 hi hd
      go_enter Try.func135, Try.ntmps135
      go_wp2_with fail
      go_ret2
      exact ⟨by rw [HS.out, ← HEX.out]; rfl, rfl⟩
    · have HO := Lib.hid ho
      have HV := Lib.hid (show showB (.neg a') = ⟨#[110, 111, 116, 32]⟩ ++ showB a' by unfold showB; rw [showL, ← ba_cat])
      have hss := showB_size a' (by unfold sizeF at hsz; omega)
      have K1 := Lib.hid (fun w => IH.out (p + 1) a' m w HO.out)
      clear ho h HO IH
      generalize showB a' = S at *
      generalize e.size - m.length = p3 at *
      go_enter Try.func135, Try.ntmps135
      go_wp2_with fail
      refine (K1.out _).mono ?_
      rintro e1 w' ⟨rfl, rfl⟩
      go_wp2_with fail
      go_ret2
      exact ⟨by rw [HV.out]; rfl, rfl⟩
    · have HO := Lib.hid ho
      have hsuf := (pf_suffix n k _ _ _ ho).trans (List.drop_suffix (p + 1) e.data.toList)
      have HM := Lib.hid (show e.data.toList.drop (e.size - m'.length) = m' from (List.suffix_iff_eq_drop.1 hsuf).symm)
      have HO2 := Lib.hid (show pf n k (e.data.toList.drop (e.size - m'.length)) = some (b', m) by rw [HM.out]; exact ho2)
      have HV := Lib.hid (show showB (.two c a' b') = ⟨#[40]⟩ ++ showB a' ++ ⟨(wordL c).toArray⟩ ++ showB b' ++ ⟨#[41]⟩ by unfold showB; rw [showL, ← ba_cat, ← ba_cat, ← ba_cat, ← ba_cat])
      have hsA := showB_size a' (by unfold sizeF at hsz; omega)
      have hsB := showB_size b' (by unfold sizeF at hsz; omega)
      have K1 := Lib.hid (fun w => IH.out (p + 1) a' m' w HO.out)
      have K2 := Lib.hid (fun w => IH.out (e.size - m'.length) b' m w HO2.out)
      clear ho ho2 h hsuf HM HO HO2 IH
      generalize e.size - m'.length = p2 at *
      generalize e.size - m.length = p3 at *
      generalize showB a' = SA at *
      generalize showB b' = SB at *
      rcases h3 with rfl | rfl | rfl
      all_goals
        go_enter Try.func135, Try.ntmps135
        go_wp2_with fail
        refine (K1.out _).mono ?_
        rintro e1 w' ⟨rfl, rfl⟩
        go_wp2_with fail
        refine (K2.out _).mono ?_
        rintro e1 w' ⟨rfl, rfl⟩
        go_wp2_with fail
        go_ret2
        exact ⟨by rw [HV.out]; rfl, rfl⟩

theorem showFormulaS (e : ByteArray) (n : Int) (w : World) (he : e.size ≤ maxLen) :
    Calls Try.prog 71 #[.string e, .int .i64 n] w fun e' w' => e' = .returned (.string (strI (fmOk e.data.toList n) (showL (fmOf e.data.toList n.toNat)))) ∧ w = w' := by
  cases hok : fmOk e.data.toList n
  · have H := Lib.hid hok
    go_enter Try.func71, Try.ntmps71
    go_wp2_with (first | (go_at_call 132; refine (formulaValidS _ _ _ he).mono ?_; rw [H.out]; rintro e w' ⟨rfl, rfl⟩))
    go_ret
    exact ⟨rfl, rfl⟩
  · obtain ⟨n, a, rfl, h1, h5, h100, hpf⟩ := fmOk_parts _ _ hok
    have H := Lib.hid hok
    have HTO := Lib.hid (show fmOf e.data.toList ((n : Nat) : Int).toNat = a by unfold fmOf; rw [Int.toNat_natCast, hpf])
    have K := Lib.hid (fun w => l2ShowS e n h5 h100 100 0 a [] w (by rw [List.drop_zero]; exact hpf))
    clear hok hpf
    go_enter Try.func71, Try.ntmps71
    go_wp2_with (first | (go_at_call 132; refine (formulaValidS _ _ _ he).mono ?_; rw [H.out]; rintro e w' ⟨rfl, rfl⟩) | (go_at_call 135; refine (K.out _).mono ?_; rintro e w' ⟨rfl, rfl⟩))
    go_ret
    exact ⟨by rw [strI_true, HTO.out]; rfl, rfl⟩

end Go.Proofs.Ytjpkpdihldcdaaa
