/- Walks: the table of several terms, the reference. -/
import Derived.Test.YtjpkpdihldcdaaaWk3
namespace Go.Proofs.Ytjpkpdihldcdaaa
set_option linter.unusedVariables false
set_option linter.unusedSimpArgs false
open Go.RowKit

theorem all_take_succ5 (ts : List (List UInt8)) (p : List UInt8 → Bool) (k : Nat) (t : List UInt8) (h : ts[k]? = some t) : (ts.take (k + 1)).all p = ((ts.take k).all p && p t) := by
  rw [List.take_add_one, h]; simp
theorem all_no5 (ts : List (List UInt8)) (p : List UInt8 → Bool) (k : Nat) (t : List UInt8) (h : ts[k]? = some t) (hp : p t = false) : ts.all p = false := by
  rw [List.all_eq_false]; exact ⟨t, List.mem_of_getElem? h, by rw [hp]; simp⟩
theorem isTab_txt5 (n : Nat) (g : Nat → Nat) (h1 : 1 ≤ n) (h5 : n ≤ 5) (hg : ∀ s, g s ≤ 1) : isTab (txt (2 ^ n) g) = true := by
  unfold isTab; rw [txt_length, lgN_pow n h1 h5, zb_txt _ _ (fun s _ => hg s)]; simp; omega
theorem orL_txt5 (m : Nat) (g h : Nat → Nat) (hg : ∀ s, g s ≤ 1) (hh : ∀ s, h s ≤ 1) : orL (txt m g) (txt m h) = txt m (fun s => max (g s) (h s)) := by
  unfold orL; rw [txt_length]
  exact txt_congr _ _ _ (fun s hs => by rw [tv_txt m g s hs (hg s), tv_txt m h s hs (hh s)])
theorem tot_step5 (ts : List (List UInt8)) (n k : Nat) (t : List UInt8) (h : ts[k]? = some t) (hl : t.length = n) : orL (txt (2 ^ n) (anyV (ts.take k))) (termL t) = txt (2 ^ n) (anyV (ts.take (k + 1))) := by
  unfold termL
  rw [hl, orL_txt5 _ _ _ (anyV_le _) (hasV_le _)]
  refine txt_congr _ _ _ (fun s _ => ?_)
  rw [List.take_add_one, h, ← anyV_snoc]; rfl

theorem tableOfTermsS (ts : List (List UInt8)) (v : Value) (n : Int) (w : World) (hl : ts.length ≤ 1048576) (hsz : ∀ t ∈ ts, t.length ≤ maxLen) (hr : Row w v (textsV ts)) :
    Calls Try.prog 59 #[v, .int .i64 n] w fun e w' => e = .returned (.tuple #[.string (strI (totOk ts n) (totL ts n.toNat)), .bool (totOk ts n)]) ∧ Below w.heap.size w w' := by
  obtain ⟨A, c, rfl, k1, k2, hc⟩ := hr
  rw [textsV_length] at k1 ⊢
  have HC := Lib.hid hc
  have HSZ := Lib.hid hsz
  obtain ⟨m, hm⟩ : ∃ m, ts.length = m := ⟨_, rfl⟩
  rw [hm] at k1 hl ⊢
  have HM := Lib.hid hm
  have HK2 := Lib.hid k2
  clear hc hsz hm k2
  by_cases hok : 1 ≤ n ∧ n ≤ 5
  · obtain ⟨n, rfl⟩ := Int.eq_ofNat_of_zero_le (show 0 ≤ n by omega)
    have h1 : 1 ≤ n := by omega
    have h5 : n ≤ 5 := by omega
    have HTOT := Lib.hid (show totOk ts (n : Int) = ts.all (isTerm · (n : Int)) by unfold totOk; simp; omega)
    have HCO := Lib.hid (show constOk (n : Int) 0 = true by unfold constOk; simp; omega)
    have HCL := Lib.hid (show constL (n : Int).toNat (0 : Int).toNat = txt (2 ^ n) (anyV (ts.take 0)) by
      unfold constL; rw [Int.toNat_natCast]; exact txt_congr _ _ _ (fun s _ => rfl))
    clear hok
    go_enter Try.func59, Try.ntmps59
    go_wp2_with fail
    refine (constantTableS (n : Int) 0 _).mono ?_
    rw [HCO.out, HCL.out, strI_true]
    rintro e w' ⟨rfl, rfl⟩
    go_wp2_with fail
    go_loopw [6, 7, 8] (fun o b j wr => ∃ k : Nat, k ≤ m ∧ j = .int .i64 k ∧ b = .bool true ∧ o = .string ⟨(txt (2 ^ n) (anyV (ts.take k))).toArray⟩ ∧ Hid ((ts.take k).all (isTerm · (n : Int)) = true) ∧ Below w.heap.size w wr) (fun _ _ j _ => m - (intOf j).toNat)
    case atStart => exact ⟨0, Nat.zero_le _, rfl, rfl, rfl, rfl, Below.refl _ _⟩
    case round =>
      obtain ⟨k, hk, rfl, rfl, rfl, ha, hB⟩ := hrel
      obtain ⟨O, hO⟩ : ∃ O : ByteArray, O = ⟨(txt (2 ^ n) (anyV (ts.take k))).toArray⟩ := ⟨_, rfl⟩
      rw [← hO]
      have HO := Lib.hid hO
      have HOL := Lib.hid (show O.data.toList = txt (2 ^ n) (anyV (ts.take k)) by rw [hO])
      clear hO
      by_cases hlt : k < m
      · obtain ⟨t, ht⟩ : ∃ t, ts[k]? = some t := ⟨_, List.getElem?_eq_getElem (by rw [HM.out]; exact hlt)⟩
        obtain ⟨b, off, rfl, hbl, hcells⟩ := HC.out (by intro e; have e2 := textsV_get _ _ _ ht; rw [e] at e2; cases e2)
        have hcell : wr.cell? ⟨b, off + k, none⟩ = some (.string ⟨t.toArray⟩) := (hB.cell (p := ⟨b, off + k, none⟩) hbl).trans (hcells k _ (textsV_get _ _ _ ht))
        obtain ⟨S, hS⟩ : ∃ S : ByteArray, S = ⟨t.toArray⟩ := ⟨_, rfl⟩
        rw [← hS] at hcell
        have HSL := Lib.hid (show S.data.toList = t by rw [hS])
        have HSS := Lib.hid (show S.size ≤ maxLen by rw [hS]; exact HSZ.out t (List.mem_of_getElem? ht))
        have HSZ2 := Lib.hid (show S.size = t.length by rw [hS]; rfl)
        have HT := Lib.hid ht
        clear hS ht hcells
        go_wp2_with fail
        refine (termValidS S (n : Int) _ HSS.out).mono ?_
        rw [HSL.out]
        rintro e w' ⟨rfl, rfl⟩
        cases hp : isTerm t (n : Int)
        · have HF := Lib.hid (show totOk ts (n : Int) = false by rw [HTOT.out]; exact all_no5 ts _ k t HT.out hp)
          clear hp
          go_wp2_with fail
          go_ret2
          exact ⟨by rw [HF.out]; rfl, hB⟩
        · obtain ⟨l1, l2, l3, l4⟩ := isTerm_len _ _ hp
          have HS := Lib.hid (show (ts.take (k + 1)).all (isTerm · (n : Int)) = true by rw [all_take_succ5 ts _ k t HT.out, ha.out, hp]; rfl)
          have HTB := Lib.hid (show S.data.toList.all tb = true by rw [HSL.out]; exact l4)
          have HST := Lib.hid (tot_step5 ts n k t HT.out (by omega))
          have hs5 : S.size ≤ 5 := by rw [HSZ2.out]; omega
          have HTAB := Lib.hid (show bothOk (txt (2 ^ n) (anyV (ts.take k))) (termL t) = true by
            have e : t.length = n := by omega
            unfold bothOk termL
            rw [e, isTab_txt5 n _ h1 h5 (anyV_le _), isTab_txt5 n _ h1 h5 (hasV_le _), txt_length, txt_length]; simp)
          have HSM := Lib.hid (show O.size ≤ maxLen by rw [HO.out]; show (txt _ _).length ≤ _; rw [txt_length]; have := pow_le32 n h5; unfold maxLen; omega)
          have HTM := Lib.hid (show (⟨(termL t).toArray⟩ : ByteArray).size ≤ maxLen by show (termL t).length ≤ _; unfold termL; rw [txt_length]; have := pow_le32 t.length (by omega); unfold maxLen; omega)
          clear hp l1 l2 l3 l4
          go_wp2_with fail
          refine (l2TableS S _ hs5 HTB.out).mono ?_
          rw [HSL.out]
          rintro e w1 ⟨rfl, hb1⟩
          have hB1 := hB.trans (hb1.mono hB.size)
          clear hb1 hB hcell
          go_wp2_with fail
          refine (orTablesS O ⟨(termL t).toArray⟩ _ HSM.out HTM.out).mono ?_
          rw [HOL.out, show (⟨(termL t).toArray⟩ : ByteArray).data.toList = termL t from rfl, HTAB.out, HST.out, strI_true]
          rintro e w2 ⟨rfl, hb2⟩
          have hB2 := hB1.trans (hb2.mono hB1.size)
          clear hb2 hB1
          go_wp2_with fail
          go_roundw
          case rel => exact ⟨k + 1, by omega, by go_num, rfl, rfl, HS, hB2⟩
          case measure => simp [intOf]; omega
      · obtain rfl : k = m := by omega
        have HTK := Lib.hid (show ts.take k = ts from List.take_of_length_le (by rw [HM.out]; exact Nat.le_refl _))
        have HF := Lib.hid (show totOk ts (n : Int) = true by rw [HTOT.out, ← HTK.out]; exact ha.out)
        go_wp2_with fail
        go_ret2
        refine ⟨?_, hB⟩
        rw [HF.out, strI_true, Int.toNat_natCast, HO.out, HTK.out]; rfl
  · have H := Lib.hid (show totOk ts n = false by unfold totOk; simp; omega)
    have HCO := Lib.hid (show constOk n 0 = false by unfold constOk; simp; omega)
    clear hok
    rcases Nat.eq_zero_or_pos m with hm0 | hm0
    · subst hm0
      go_enter Try.func59, Try.ntmps59
      go_wp2_with fail
      refine (constantTableS n 0 _).mono ?_
      rw [HCO.out]
      rintro e w' ⟨rfl, rfl⟩
      go_wp2_with fail
      refine wp_loop_rounds 1 ?_
      rw [rounds_succ]
      go_wp2_with fail
      go_ret2
      exact ⟨by rw [H.out]; rfl, Below.refl _ _⟩
    · have hm1 : (0 : Int) < (m : Int) := by omega
      go_enter Try.func59, Try.ntmps59
      go_wp2_with fail
      refine (constantTableS n 0 _).mono ?_
      rw [HCO.out]
      rintro e w' ⟨rfl, rfl⟩
      go_wp2_with fail
      refine wp_loop_rounds 1 ?_
      rw [rounds_succ]
      go_wp2_with fail
      go_ret2
      exact ⟨by rw [H.out]; rfl, Below.refl _ _⟩

end Go.Proofs.Ytjpkpdihldcdaaa
