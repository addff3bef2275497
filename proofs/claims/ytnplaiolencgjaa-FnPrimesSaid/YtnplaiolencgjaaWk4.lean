/- Walks: the table of several terms, the program. -/
import Derived.Test.YtnplaiolencgjaaWk3
import Derived.Test.YtnplaiolencgjaaWi2
namespace Go.Proofs.Ytnplaiolencgjaa
set_option linter.unusedVariables false
set_option linter.unusedSimpArgs false
open Go.RowKit

theorem all_take_succ4 (ts : List (List UInt8)) (p : List UInt8 → Bool) (k : Nat) (t : List UInt8) (h : ts[k]? = some t) : (ts.take (k + 1)).all p = ((ts.take k).all p && p t) := by
  rw [List.take_add_one, h]; simp
theorem all_no4 (ts : List (List UInt8)) (p : List UInt8 → Bool) (k : Nat) (t : List UInt8) (h : ts[k]? = some t) (hp : p t = false) : ts.all p = false := by
  rw [List.all_eq_false]; exact ⟨t, List.mem_of_getElem? h, by rw [hp]; simp⟩

theorem tableOfTermsI (ts : List (List UInt8)) (v : Value) (n : Int) (w : World) (hl : ts.length ≤ 1048576) (hsz : ∀ t ∈ ts, t.length ≤ maxLen) (hr : Row w v (textsV ts)) :
    Calls Try.prog 11 #[v, .int .i64 n] w fun e w' => e = .returned (.tuple #[.string (strI (totOk ts n) (totL ts n.toNat)), .bool (totOk ts n)]) ∧ Below w.heap.size w w' := by
  have HR0 := Lib.hid hr
  obtain ⟨A, c, rfl, k1, k2, hc⟩ := hr
  rw [textsV_length] at k1 HR0 ⊢
  have HC := Lib.hid hc
  have HSZ := Lib.hid hsz
  obtain ⟨m, hm⟩ : ∃ m, ts.length = m := ⟨_, rfl⟩
  rw [hm] at k1 hl HR0 ⊢
  have HM := Lib.hid hm
  have HK2 := Lib.hid k2
  clear hc hsz hm k2
  by_cases hok : 1 ≤ n ∧ n ≤ 5
  · obtain ⟨n, rfl⟩ := Int.eq_ofNat_of_zero_le (show 0 ≤ n by omega)
    have h1 : 1 ≤ n := by omega
    have h5 : n ≤ 5 := by omega
    have d1 : decide ((n : Int) < 1) = false := by simp; omega
    have d2 : decide ((5 : Int) < (n : Int)) = false := by simp; omega
    have HTOT := Lib.hid (show totOk ts (n : Int) = ts.all (isTerm · (n : Int)) by unfold totOk; simp; omega)
    clear hok
    go_enter Try.func11, Try.ntmps11
    go_wp2_with fail
    go_loopw [16] (fun j wr => ∃ k : Nat, k ≤ m ∧ j = .int .i64 k ∧ Hid ((ts.take k).all (isTerm · (n : Int)) = true) ∧ Hid (wr.cell? ⟨w.heap.size, 0, none⟩ = some (.slice A m c)) ∧ Below w.heap.size w wr ∧ w.heap.size < wr.heap.size) (fun j _ => m - (intOf j).toNat)
    case atStart => exact ⟨0, Nat.zero_le _, rfl, rfl, (cell_of_row _ _ _ _ _ _ (heap_alloc_new _ _)).trans rfl, (Below.refl _ _).alloc (Nat.le_refl _) _, by simp⟩
    case round =>
      obtain ⟨k, hk, rfl, ha, hbox, hB, hbs⟩ := hrel
      by_cases hlt : k < m
      · obtain ⟨t, ht⟩ : ∃ t, ts[k]? = some t := ⟨_, List.getElem?_eq_getElem (by rw [HM.out]; exact hlt)⟩
        obtain ⟨b, off, rfl, hbl, hcells⟩ := HC.out (by intro e; have e2 := textsV_get _ _ _ ht; rw [e] at e2; cases e2)
        have hcell : wr.cell? ⟨b, off + k, none⟩ = some (.string ⟨t.toArray⟩) := (hB.cell (p := ⟨b, off + k, none⟩) hbl).trans (hcells k _ (textsV_get _ _ _ ht))
        obtain ⟨S, hS⟩ : ∃ S : ByteArray, S = ⟨t.toArray⟩ := ⟨_, rfl⟩
        rw [← hS] at hcell
        have HSL := Lib.hid (show S.data.toList = t by rw [hS])
        have HSS := Lib.hid (show S.size ≤ maxLen by rw [hS]; exact HSZ.out t (List.mem_of_getElem? ht))
        have HT := Lib.hid ht
        clear hS ht hcells
        go_wp2_with fail
        refine (termValidI S (n : Int) _ HSS.out).mono ?_
        rw [HSL.out]
        rintro e w' ⟨rfl, rfl⟩
        cases hp : isTerm t (n : Int)
        · have HF := Lib.hid (show totOk ts (n : Int) = false by rw [HTOT.out]; exact all_no4 ts _ k t HT.out hp)
          clear hp
          go_wp2_with fail
          go_ret2
          exact ⟨by rw [HF.out]; rfl, hB⟩
        · have HS := Lib.hid (show (ts.take (k + 1)).all (isTerm · (n : Int)) = true by rw [all_take_succ4 ts _ k t HT.out, ha.out, hp]; rfl)
          clear hp
          go_wp2_with fail
          go_roundw
          case rel => exact ⟨k + 1, by omega, by go_num, HS, hbox, hB, hbs⟩
          case measure => simp [intOf]; omega
      · obtain rfl : k = m := by omega
        have HALL := Lib.hid (show ts.all (isTerm · (n : Int)) = true by have := ha.out; rwa [List.take_of_length_le (by rw [HM.out]; exact Nat.le_refl _)] at this)
        have HF := Lib.hid (show totOk ts (n : Int) = true by rw [HTOT.out]; exact HALL.out)
        have HTT := Lib.hid (show ∀ t ∈ ts, t.length ≤ 5 ∧ t.all tb = true from fun t ht => by
          obtain ⟨l1, l2, l3, l4⟩ := isTerm_len _ _ (List.all_eq_true.1 HALL.out t ht)
          exact ⟨by omega, l4⟩)
        go_wp2_with fail
        refine (each n (2 ^ n) _ _ (anyV ts) h5 rfl _ Try.call26 ?_).mono ?_
        · intro s hs w1 hb1
          have h32 := pow_le32 n h5
          exact tot1 w.heap.size s _ ts w1 (by omega) (by rw [HM.out]; exact hl) HTT.out (Nat.lt_of_lt_of_le hbs hb1.size) ((hb1.cell (p := ⟨w.heap.size, 0, none⟩) hbs).trans hbox.out) ((HR0.out.keep hB).keep hb1)
        rintro e w2 ⟨rfl, hb2⟩
        go_wp2_with fail
        refine (text n (2 ^ n) _ h5 rfl (fun s hs => by rw [upto_lt _ _ _ hs]; exact anyV_le _ _) _).mono ?_
        rintro e w3 ⟨rfl, hb3⟩
        go_wp2_with fail
        go_ret2
        refine ⟨?_, ?_⟩
        · rw [HF.out, strI_true, Int.toNat_natCast, txt_upto]; rfl
        · exact (hB.trans (hb2.mono hB.size)).trans (hb3.mono (by have := hb2.size; have := hB.size; omega))
  · have H := Lib.hid (show totOk ts n = false by unfold totOk; simp; omega)
    rcases Decidable.em (n < 1) with c1 | c1
    · clear hok
      go_enter Try.func11, Try.ntmps11
      go_wp2_with fail
      go_ret2
      exact ⟨by rw [H.out]; rfl, (Below.refl _ _).alloc (Nat.le_refl _) _⟩
    have c2 : 5 < n := by omega
    clear hok
    go_enter Try.func11, Try.ntmps11
    go_wp2_with fail
    go_ret2
    exact ⟨by rw [H.out]; rfl, (Below.refl _ _).alloc (Nat.le_refl _) _⟩

theorem anyV_one (t : List UInt8) : anyV [t] = hasV t := by
  funext s; simp [anyV, hasV]

end Go.Proofs.Ytnplaiolencgjaa
