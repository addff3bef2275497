/- Walks: the laws on networks, the reference. -/
import Derived.Test.YtnplaiolencgjaaDoorWz6
import Derived.Test.YtnplaiolencgjaaDoorWb
namespace Go.Proofs.YtnplaiolencgjaaDoor
set_option linter.unusedVariables false
set_option linter.unusedSimpArgs false
open Go.RowKit

/-- The texts of a network, cut at its commas. -/
def netL (s : ByteArray) : List (List UInt8) := cutG 44 [] s.data.toList
theorem wTexts_no {ts : List (List UInt8)} (h : wOk ts = false) : wTexts ts = [] := by unfold wTexts; rw [h]; rfl
theorem wTexts_yes {ts : List (List UInt8)} (h : wOk ts = true) : wTexts ts = ts := by unfold wTexts; rw [h]; rfl

/-- What l3Open and l3State hand back. -/
def Opened (w w' : World) (A : Option Addr) (c : Nat) (ts : List (List UInt8)) : Prop := ts.length ≤ c ∧ c ≤ 9223372036854775807 ∧ Hid (Row w' (.slice A ts.length c) (textsV ts)) ∧ Hid (Tex w' w.heap.size A ts) ∧ Below w.heap.size w w'

theorem l3OpenC (s : ByteArray) (w : World) (hs : s.size ≤ 1048576) :
    Calls Tryd.prog 30 #[.string s] w fun e w' => ∃ A c, e = .returned (.tuple #[.slice A (wTexts (netL s)).length c, .bool (wOk (netL s))]) ∧ Opened w w' A c (wTexts (netL s)) := by
  refine (l3OpenS s w hs).mono ?_
  rintro e w' ⟨v, rfl, hr, hB⟩
  have hrow := hr.row
  obtain ⟨A, c, rfl, k1, k2, ht⟩ := res_texts hr
  exact ⟨A, c, rfl, k1, by unfold maxLen at k2; omega, hrow, ht, hB⟩

theorem networkValidS (s : ByteArray) (w : World) (hs : s.size ≤ 1048576) :
    Calls Tryd.prog 13 #[.string s] w fun e w' => e = .returned (.bool (wOk (netL s))) ∧ Below w.heap.size w w' := by
  have O := Lib.hid (l3OpenC s w hs)
  generalize netL s = ts at *
  go_enter Tryd.func13, Tryd.ntmps13
  go_wp2_with fail
  refine O.out.mono ?_
  rintro e w1 ⟨A, c, rfl, hO⟩
  go_wp2_with fail
  go_ret
  exact ⟨rfl, hO.2.2.2.2⟩

def sizeV (ts : List (List UInt8)) : Int := if wOk ts then (ts.length : Nat) else -1
theorem sizeOfS (s : ByteArray) (w : World) (hs : s.size ≤ 1048576) :
    Calls Tryd.prog 15 #[.string s] w fun e w' => e = .returned (.int .i64 (sizeV (netL s))) ∧ Below w.heap.size w w' := by
  have O := Lib.hid (l3OpenC s w hs)
  generalize netL s = ts at *
  cases hok : wOk ts
  · rw [wTexts_no hok, hok] at O
    have HV := Lib.hid (show sizeV ts = -1 by unfold sizeV; rw [hok]; rfl)
    clear hok
    go_enter Tryd.func15, Tryd.ntmps15
    go_wp2_with fail
    refine O.out.mono ?_
    rintro e w1 ⟨A, c, rfl, hO⟩
    go_wp2_with fail
    go_ret
    exact ⟨ret_int HV.out.symm, hO.2.2.2.2⟩
  · rw [wTexts_yes hok, hok] at O
    have HV := Lib.hid (show sizeV ts = (ts.length : Nat) by unfold sizeV; rw [hok]; rfl)
    clear hok
    go_enter Tryd.func15, Tryd.ntmps15
    go_wp2_with fail
    refine O.out.mono ?_
    rintro e w1 ⟨A, c, rfl, hO⟩
    go_wp2_with fail
    go_ret
    exact ⟨ret_int HV.out.symm, hO.2.2.2.2⟩

/-- A network has a switch. -/
def swOk (ts : List (List UInt8)) (i : Int) : Bool := wOk ts && (decide (0 ≤ i) && decide (i ≤ (ts.length : Int) - 1))
def ruleV (ts : List (List UInt8)) (i : Int) : ByteArray := if swOk ts i then ⟨(ts.getD i.toNat []).toArray⟩ else ⟨#[]⟩
theorem swOk_switch {ts : List (List UInt8)} {i : Int} (h : swOk ts i = true) : ∃ (k : Nat) (t : List UInt8), i = k ∧ k < ts.length ∧ ts[k]? = some t ∧ wOk ts = true := by
  unfold swOk at h
  simp only [Bool.and_eq_true, decide_eq_true_eq] at h
  have hk : i.toNat < ts.length := by omega
  exact ⟨i.toNat, ts[i.toNat], by omega, hk, List.getElem?_eq_getElem hk, h.1⟩

theorem ruleOfS (s : ByteArray) (i : Int) (w : World) (hs : s.size ≤ 1048576) :
    Calls Tryd.prog 17 #[.string s, .int .i64 i] w fun e w' => e = .returned (.string (ruleV (netL s) i)) ∧ Below w.heap.size w w' := by
  have O := Lib.hid (l3OpenC s w hs)
  generalize netL s = ts at *
  cases hok : wOk ts
  · rw [wTexts_no hok, hok] at O
    have HV := Lib.hid (show ruleV ts i = ⟨#[]⟩ by unfold ruleV swOk; rw [hok]; rfl)
    clear hok
    go_enter Tryd.func17, Tryd.ntmps17
    go_wp2_with fail
    refine O.out.mono ?_
    rintro e w1 ⟨A, c, rfl, hO⟩
    go_wp2_with fail
    go_ret
    exact ⟨ret_str HV.out.symm, hO.2.2.2.2⟩
  · rw [wTexts_yes hok, hok] at O
    have h5 := wOk_five hok
    have IN := Lib.hid (fun w => l1In i 0 ((ts.length : Int) - 1) w)
    cases hsw : swOk ts i
    · have HV := Lib.hid (show ruleV ts i = ⟨#[]⟩ by unfold ruleV; rw [hsw]; rfl)
      have e1 : (decide (0 ≤ i) && decide (i ≤ (ts.length : Int) - 1)) = false := by unfold swOk at hsw; rw [hok] at hsw; simpa using hsw
      rw [e1] at IN
      clear hok hsw e1
      go_enter Tryd.func17, Tryd.ntmps17
      go_wp2_with fail
      refine O.out.mono ?_
      rintro e w1 ⟨A, c, rfl, hO⟩
      obtain ⟨k1, k2, _, _, hB⟩ := hO
      go_wp2_with (first | (go_at_call 31; (with_reducible refine (IN.out _).mono ?_); rintro e w3 ⟨rfl, rfl⟩) | fail)
      go_ret
      exact ⟨ret_str HV.out.symm, hB⟩
    · obtain ⟨k, t, rfl, hk, ht, _⟩ := swOk_switch hsw
      have HV := Lib.hid (show ruleV ts k = ⟨t.toArray⟩ by unfold ruleV; rw [hsw, if_pos rfl, Int.toNat_natCast, List.getD, ht]; rfl)
      have e1 : (decide (0 ≤ (k : Int)) && decide ((k : Int) ≤ (ts.length : Int) - 1)) = true := by unfold swOk at hsw; rw [hok] at hsw; simpa using hsw
      rw [e1] at IN
      have HT := Lib.hid ht
      clear hok hsw e1 ht
      obtain ⟨n, hn⟩ : ∃ n, ts.length = n := ⟨_, rfl⟩
      rw [hn] at O IN h5 hk
      have HN := Lib.hid hn
      clear hn
      go_enter Tryd.func17, Tryd.ntmps17
      go_wp2_with fail
      refine O.out.mono ?_
      rintro e w1 ⟨A, c, rfl, hO⟩
      obtain ⟨k1, k2, _, hT, hB⟩ := hO
      rw [HN.out] at k1
      obtain ⟨g, rfl, hg, hcell⟩ := hT.out k t HT.out
      clear hT
      obtain ⟨S, hS⟩ : ∃ S : ByteArray, S = ⟨t.toArray⟩ := ⟨_, rfl⟩
      rw [← hS] at hcell HV
      clear hS
      go_wp2_with (first | (go_at_call 31; (with_reducible refine (IN.out _).mono ?_); rintro e w3 ⟨rfl, rfl⟩) | fail)
      go_ret
      exact ⟨ret_str HV.out.symm, hB⟩

end Go.Proofs.YtnplaiolencgjaaDoor
