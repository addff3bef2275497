/-
  'laws.FnCover' returns true for every input, and each argument reads behind the call as it read before. No conditions.
-/
import Derived.Test.YtknkhcaaadnaiaaRows
import Derived.Test.YtknkhcaaadnaiaaWx
import Derived.Test.YtknkhcaaadnaiaaPk
import Derived.Test.YtknkhcaaadnaiaaWd3
import Derived.Test.YtknkhcaaadnaiaaWk4
import Derived.Test.YtknkhcaaadnaiaaWb
import Derived.Test.YtknkhcaaadnaiaaWv5
import Derived.Test.YtknkhcaaadnaiaaWv6
import Derived.WalkKit
import Derived.ProofKit
import Derived.OpenShut
import Derived.ShutString
import Derived.ChangeOld
import Derived.Below
import Derived.SliceStrings
import Derived.Deep.RegionLaw
namespace Go.Proofs.Ytknkhcaaadnaiaa
set_option linter.unusedVariables false
set_option linter.unusedSimpArgs false
namespace fnCover
open Go.ChangeShapes Go.WideShapes Go.ChangeAt Go.RowKit
open Go.ChangeMaps (open_string shut_string)
open Go.RowKit
set_option linter.unusedVariables false

theorem cov_facts (F : ByteArray) (hb : isTab F.data.toList = true) : ∃ n : Nat, 1 ≤ n ∧ n ≤ 5 ∧
    Hid (∀ w0, Co w0 8 #[.string F] (.bool true)) ∧ Hid (∀ w0, Co w0 9 #[.string F] (.int .i64 (n : Int))) ∧
    Hid (∀ t ∈ covL F.data.toList, t.length ≤ maxLen) ∧ Hid (totOk (covL F.data.toList) (n : Int) = true) ∧ Hid ((⟨(totL (covL F.data.toList) n).toArray⟩ : ByteArray) = F) ∧
    Hid (∀ i, i < (covL F.data.toList).length → totOk (wout (covL F.data.toList) i) (n : Int) = true ∧ (⟨(totL (wout (covL F.data.toList) i) n).toArray⟩ : ByteArray) ≠ F) ∧
    Hid ((neeL F.data.toList).Sublist (covL F.data.toList)) := by
  obtain ⟨n, g, h1, h5, hg, rfl⟩ := tab_T F hb
  have hP : primL (T n g).data.toList = primS g n (2 ^ n) := by
    unfold primL
    rw [hb, lgN_T h1 h5, len_T, if_pos rfl]
    unfold primS
    apply List.filter_congr
    intro t htm
    have hi : ∀ t, impB (tv (T n g).data.toList) (2 ^ n) t = impB g (2 ^ n) t := fun t => bool_of_iff (by
      simp only [impB_iff]
      exact ⟨fun h s hs hh => by rw [← tv_T hg s hs]; exact h s hs hh, fun h s hs hh => by rw [tv_T hg s hs]; exact h s hs hh⟩)
    unfold l2P
    simp only [hi]
  have hC : covL (T n g).data.toList = covK (primS g n (2 ^ n)) (primS g n (2 ^ n)).length := by unfold covL; rw [hP]
  have hNe : neeL (T n g).data.toList = neeK (primS g n (2 ^ n)) (primS g n (2 ^ n)).length := by unfold neeL; rw [hP]
  have hmem : ∀ t ∈ covK (primS g n (2 ^ n)) (primS g n (2 ^ n)).length, t.length = n ∧ t.all tb = true := fun t ht => prim_mem g n (2 ^ n) t ((covK_sub _ _).subset ht)
  have hok : ∀ ts : List (List UInt8), (∀ t ∈ ts, t.length = n ∧ t.all tb = true) → totOk ts (n : Int) = true := fun ts h => by
    unfold totOk
    rw [List.all_eq_true.2 fun t ht => by
      obtain ⟨hp1, hp2⟩ := h t ht
      unfold isTerm; rw [hp2]; simp; omega]
    simp; omega
  have hval : ∀ s, s < 2 ^ n → anyV (covK (primS g n (2 ^ n)) (primS g n (2 ^ n)).length) s = g s := fun s hs => by
    rw [← prime_cover g n h5 hg s hs]
    unfold anyV
    rw [covK_any n _ _ (Nat.le_refl _) (fun t ht => (prim_mem g n (2 ^ n) t ht).1) s hs]
  rw [hC, hNe]
  refine ⟨n, h1, h5, fun w0 => tValidI w0 h1 h5 hg, fun w0 => tInputsI w0 h1 h5 hg, ?_, hok _ hmem, ?_, ?_, nee_cov _ (prim_nodup g n (2 ^ n) h5)⟩
  · intro t ht
    have := (hmem t ht).1
    unfold maxLen; omega
  · show _ = _
    unfold totL T
    rw [txt_congr _ _ _ hval]
  · intro i hi
    refine ⟨hok _ fun t ht => hmem t (wout_mem _ i t ht), fun e => ?_⟩
    have hne := covK_needed (primS g n (2 ^ n)).length (primS g n (2 ^ n)) (Nat.le_refl _) (fun i t hi he => by rw [List.getElem?_eq_none hi] at he; cases he) i _ (Nat.zero_le _) (List.getElem?_eq_getElem hi)
    obtain ⟨s, hs, h2, h3⟩ := (needB_iff _ _).1 hne
    have htm := List.getElem_mem hi
    rw [(hmem _ htm).1] at hs
    have e1 : g s = 1 := by rw [← hval s hs]; exact (anyV_one_iff _ s).2 ⟨_, htm, h2⟩
    have e2 := T_inj n _ g (anyV_le _) hg e s hs
    rw [e1] at e2
    obtain ⟨u, hu, hh⟩ := (anyV_one_iff _ s).1 e2
    rw [h3 u hu] at hh
    cases hh

theorem cov_no (l : List UInt8) (h : isTab l = false) : covL l = [] := by
  have : primL l = [] := by unfold primL; rw [h]; rfl
  unfold covL; rw [this]; rfl
theorem sub_step (x y : List UInt8) (r l : List (List UInt8)) (h : (x :: r).Sublist (y :: l)) (hne : y ≠ x) : (x :: r).Sublist l := by
  cases h with
  | cons _ h' => exact h'
  | cons_cons _ h' => exact absurd rfl hne
theorem sub_tail (x : List UInt8) (r l : List (List UInt8)) (h : (x :: r).Sublist l) : r.Sublist l := (List.sublist_cons_self x r).trans h

set_option maxRecDepth 100000 in
set_option maxHeartbeats 4000000 in
theorem walk_FnCover (A : Option Addr) (n c : Nat) (w : World) (h : ArgB w A n c) :
    Calls Try.prog 4 #[.slice A n c] w fun e w' => e = .returned (.bool true) ∧ Below w.heap.size w w' := by
  have hnm := Nat.le_trans h.1 h.2.1
  unfold maxLen at hnm
  by_cases hbig : 1048576 < n
  · go_enter Try.func4, Try.ntmps4
    go_wp2_with fail
    go_ret
    exact ⟨rfl, Below.refl _ _⟩
  go_enter Try.func4, Try.ntmps4
  go_wp2_with fail
  refine (drawCoverOfS A n c w h).mono ?_
  rintro e wz ⟨F, hF, rfl, hB⟩
  clear h
  have fF : F.size ≤ maxLen := by unfold maxLen; omega
  have PI := Lib.hid (fun w => coverOfI F w fF)
  have PS := Lib.hid (fun w => coverOfS F w fF)
  cases hb : isTab F.data.toList
  · rw [cov_no _ hb] at PI PS
    have c1 := Lib.hid (fun w0 => (co w0 fun w => tableValidI F w fF).as (by rw [hb]))
    clear hb
    go_wp2_with fail
    refine (PI.out _).mono ?_
    rintro e w3 ⟨⟨v, rfl, hres⟩, hb3⟩
    have hB3 := hB.trans (hb3.mono hB.size)
    have hrow := Lib.hid hres.row
    obtain ⟨Ad, cap, rfl, hlc, hcm, htex⟩ := res_texts hres
    have HT := Lib.hid htex
    clear hres htex hb3 hB
    have hB : Below w3.heap.size w3 w3 := Below.refl _ _
    go_wp2_with fail
    refine (PS.out _).mono ?_
    rintro e w4 ⟨⟨v4, rfl, hres4⟩, hb4⟩
    have hB := hB.trans (hb4.mono hB.size)
    go_wp2_with fail
    refine (bnTextsL [] _ _ _ (by simp) (hrow.out.keep hB) hres4.row).mono ?_
    rintro e w5 ⟨rfl, hb5⟩
    have hB := hB.trans (hb5.mono hB.size)
    clear hres4 hb4 hb5
    go_wp2_with (first | (go_at_call 8; (with_reducible refine (((c1).out _).at hB).mono ?_); rintro e w1 ⟨rfl, hB⟩) | fail)
    refine (PS.out _).mono ?_
    rintro e w4 ⟨⟨v4, rfl, hres4⟩, hb4⟩
    have hB := hB.trans (hb4.mono hB.size)
    go_wp2_with fail
    refine (bnTextsL [] _ _ _ (by simp) (hrow.out.keep hB) hres4.row).mono ?_
    rintro e w5 ⟨rfl, hb5⟩
    have hB := hB.trans (hb5.mono hB.size)
    clear hres4 hb4 hb5
    go_wp2_with fail
    go_ret
    exact ⟨rfl, hB3.trans (hB.mono hB3.size)⟩
  · obtain ⟨N, h1, h5, c1, c2, hpm, hto, htl, hwo, hsub⟩ := cov_facts F hb
    have NI := Lib.hid (fun w => neededPrimesI F w fF)
    have QI := Lib.hid (fun w => primesOfI F w fF)
    have hql := covK_len (primL F.data.toList).length (primL F.data.toList)
    have hqm := primL_len F.data.toList
    rw [show covK (primL F.data.toList) (primL F.data.toList).length = covL F.data.toList from rfl] at hql
    have hnm2 := hsub.out.length_le
    obtain ⟨ns, hns⟩ : ∃ ns, ns = neeL F.data.toList := ⟨_, rfl⟩
    rw [← hns] at NI hsub hnm2
    obtain ⟨cs, hcs⟩ : ∃ cs, cs = covL F.data.toList := ⟨_, rfl⟩
    rw [← hcs] at PI PS hpm hto htl hwo hsub hql hnm2
    obtain ⟨qs, hqs⟩ : ∃ qs, qs = primL F.data.toList := ⟨_, rfl⟩
    rw [← hqs] at QI hql hqm
    clear hb hns hcs hqs
    go_wp2_with fail
    refine (PI.out _).mono ?_
    rintro e w3 ⟨⟨v, rfl, hres⟩, hb3⟩
    have hB3 := hB.trans (hb3.mono hB.size)
    have hrow := Lib.hid hres.row
    obtain ⟨Ad, cap, rfl, hlc, hcm, htex⟩ := res_texts hres
    have HT := Lib.hid htex
    clear hres htex hb3 hB
    have hB : Below w3.heap.size w3 w3 := Below.refl _ _
    have TI := Lib.hid (fun (w : World) hr => tableOfTermsI cs (.slice Ad cs.length cap) N w (by omega) hpm.out hr)
    rw [hto.out, Int.toNat_natCast, show strI true (totL cs N) = (⟨(totL cs N).toArray⟩ : ByteArray) from rfl, htl.out] at TI
    obtain ⟨L, hL⟩ : ∃ L, L = cs.length := ⟨_, rfl⟩
    rw [← hL] at hlc hrow hql hnm2 hwo TI ⊢
    have hL3 : L ≤ 243 := by omega
    have HL := Lib.hid hL
    unfold maxLen at hcm
    clear hL hto htl
    go_wp2_with fail
    refine (PS.out _).mono ?_
    rintro e w4 ⟨⟨v4, rfl, hres4⟩, hb4⟩
    have hB := hB.trans (hb4.mono hB.size)
    go_wp2_with fail
    refine (bnTextsL cs _ _ _ (by rw [← HL.out]; omega) (hrow.out.keep hB) hres4.row).mono ?_
    rintro e w5 ⟨rfl, hb5⟩
    have hB := hB.trans (hb5.mono hB.size)
    clear hres4 hb4 hb5
    go_wp2_with (first | (go_at_call 8; (with_reducible refine (((c1).out _).at hB).mono ?_); rintro e w1 ⟨rfl, hB⟩) | (go_at_call 9; (with_reducible refine (((c2).out _).at hB).mono ?_); rintro e w1 ⟨rfl, hB⟩) | fail)
    refine (TI.out _ (hrow.out.keep hB)).mono ?_
    rintro e w6 ⟨rfl, hb6⟩
    have hB := hB.trans (hb6.mono hB.size)
    clear hb6 TI
    go_wp2_with fail
    go_loopw [8] (fun j wr => ∃ k : Nat, k ≤ L ∧ j = .int .i64 k ∧ Below w3.heap.size w3 wr) (fun j _ => L - (intOf j).toNat)
    case atStart => exact ⟨0, Nat.zero_le _, rfl, hB⟩
    case round =>
      clear hB
      obtain ⟨k, hk, rfl, hB⟩ := hrel
      by_cases hlt : k < L
      · obtain ⟨tt, htt⟩ : ∃ t, cs[k]? = some t := ⟨_, List.getElem?_eq_getElem (by rw [← HL.out]; exact hlt)⟩
        obtain ⟨b, rfl, hbb, _⟩ := HT.out k tt htt
        have hr : Row wr (.slice (some ⟨b, 0, none⟩) cs.length cap) (textsV cs) := by rw [← HL.out]; exact hrow.out.keep hB
        have R1 := Lib.hid (Src.of_row (row_take hr k (by rw [← HL.out]; omega)))
        have R2 := Lib.hid (show Src wr (if cap = k + 1 then some ⟨b, 0, none⟩ else some ⟨b, k + 1, none⟩) (textsV (cs.drop (k + 1))) by
          split
          · next h =>
            rw [List.drop_eq_nil_of_le (by rw [← HL.out]; omega)]
            exact Src.none_ _ _
          · have hrd := row_drop hr k (by rw [← HL.out]; omega)
            rwa [Nat.zero_add] at hrd)
        have WO := Lib.hid (hwo.out k hlt)
        have hwlen := wout_le cs k
        rw [← HL.out] at hwlen
        have HWM := Lib.hid (show ∀ t ∈ wout cs k, t.length ≤ maxLen from fun t ht => hpm.out t (wout_mem cs k t ht))
        clear hr htt
        have q0 : (0 : Int) ≤ (k : Int) := Int.natCast_nonneg _
        have q1 : (k : Int) ≤ (cap : Int) := by omega
        have p1 : IntKind.i64.wrap ((k : Int) + 1) = (k : Int) + 1 := IntWalk.i64_in _ (by omega)
        have p2 : (0 : Int) ≤ (k : Int) + 1 := by omega
        have p3 : ((k : Int) + 1).toNat = k + 1 := by omega
        have p5 : (k : Int) + 1 ≤ (L : Int) := by omega
        have hszr := Nat.le_refl wr.heap.size
        have O1 := Lib.hid (show ((wr.alloc (Obj.cells #[] 9)).drew).ownsRow wr.heap.size 9 1 (.slice (some ⟨wr.heap.size, 0, none⟩) 0 0) 0 [] from ⟨rfl, .inr ⟨wr.heap.size, 0, #[], rfl, Nat.le_refl _, heap_alloc_new _ _, Nat.le_refl _, Nat.zero_le _, rfl, rfl⟩⟩)
        have B1 := Lib.hid (show Below wr.heap.size wr (wr.alloc (Obj.cells #[] 9)).drew from ((Below.refl _ _).alloc (Nat.le_refl _) _).drew)
        go_wp2_with fail
        go_region_law (first
          | (refine step_append_row (wr.alloc (Obj.cells #[] 9)).drew (by rfl) _ _ _ (by rfl) wr.heap.size 9 (.string ⟨#[]⟩) 16 Try.underlying32 infoS rfl (.slice (some ⟨wr.heap.size, 0, none⟩) 0 0) 0 [] (by rfl) O1.out (some ⟨b, 0, none⟩) k cap (textsV (cs.take k)) (by rfl) (by rw [textsV_length, List.length_take, ← HL.out]; omega) (by exact Src.below R1.out B1.out) (texts_one _) (by omega) (by decide) (by exact B1.out.size) ?_; intro v5 w5 hown5 hg5 hat5 hbel5)
          | (refine step_append_row _ (by rfl) _ _ _ (by rfl) wr.heap.size 9 (.string ⟨#[]⟩) 16 Try.underlying32 infoS rfl v5 (0 + k) ([] ++ textsV (cs.take k)) (by rfl) hown5 (if cap = k + 1 then some ⟨b, 0, none⟩ else some ⟨b, k + 1, none⟩) (L - (k + 1)) (cap - (k + 1)) (textsV (cs.drop (k + 1))) (by rfl) (by rw [textsV_length, List.length_drop, ← HL.out]) (by exact Src.below R2.out (B1.out.trans hbel5)) (texts_one _) (by omega) (by decide) (by exact (B1.out.trans hbel5).size) ?_; intro v6 w6 hown6 hg6 hat6 hbel6)
          | fail)
        have hB6 := B1.out.trans (hbel5.trans hbel6)
        have HW := Lib.hid (show Row w6 v6 (textsV (wout cs k)) by
          rw [show 0 + k + (L - (k + 1)) = L - 1 by omega] at hown6
          have hown7 : w6.ownsRow wr.heap.size 9 1 v6 (L - 1) (textsV (wout cs k)) := by simpa [wout, textsV] using hown6
          exact Row.of_own hown7)
        have hB := hB.trans (hB6.mono hB.size)
        clear hown5 hg5 hat5 hbel5 hown6 hg6 hat6 hbel6 O1 B1 hB6 R1 R2
        generalize (if cap = k + 1 then some (⟨b, 0, none⟩ : Addr) else some ⟨b, k + 1, none⟩) = AA at *
        obtain ⟨w1', w2'⟩ := WO.out
        have TW := Lib.hid (tableOfTermsI (wout cs k) v6 N w6 (by omega) HWM.out HW.out)
        rw [w1', Int.toNat_natCast, show strI true (totL (wout cs k) N) = (⟨(totL (wout cs k) N).toArray⟩ : ByteArray) from rfl] at TW
        generalize (⟨(totL (wout cs k) N).toArray⟩ : ByteArray) = X at TW w2'
        have hne := str_ne w2'
        clear w1' w2' WO
        go_wp2_with fail
        all_goals
          refine TW.out.mono ?_
          rintro e w7 ⟨rfl, hb7⟩
          have hB := hB.trans (hb7.mono hB.size)
          go_wp2_with fail
          go_roundw
          case rel => exact ⟨k + 1, by omega, by go_num, hB⟩
          case measure => simp [intOf]; omega
      · go_wp2_with fail
        refine (NI.out _).mono ?_
        rintro e w8 ⟨⟨v8, rfl, hres8⟩, hb8⟩
        obtain ⟨Ad8, cap8, rfl, hlc8, hcm8, htex8⟩ := res_texts hres8
        have HT8 := Lib.hid htex8
        have HTC := Lib.hid ((show Tex wr _ Ad cs from fun q u hu => by
          obtain ⟨g', e1, e2, e3⟩ := HT.out q u hu
          exact ⟨g', e1, e2, (hB.cell (p := ⟨g', q, none⟩) (World.block_lt_of_cell? _ _ e3)).trans e3⟩).keep hb8)
        have hB8 := hB.trans (hb8.mono hB.size)
        obtain ⟨M, hM⟩ : ∃ M, M = ns.length := ⟨_, rfl⟩
        rw [← hM] at hlc8 hnm2 ⊢
        have HM := Lib.hid hM
        unfold maxLen at hcm8
        clear hM hres8 htex8 hb8 hB
        go_wp2_with fail
        go_loopw [13, 14] (fun a j wr => ∃ (p q : Nat), p ≤ L ∧ q ≤ M ∧ a = .int .i64 p ∧ j = .int .i64 q ∧ Hid ((ns.drop q).Sublist (cs.drop p)) ∧ Below w8.heap.size w8 wr) (fun _ j _ => M - (intOf j).toNat)
        case atStart => exact ⟨0, 0, Nat.zero_le _, Nat.zero_le _, rfl, rfl, hsub, Below.refl _ _⟩
        case round =>
          obtain ⟨p, q, hp, hq, rfl, rfl, hS, hBq⟩ := hrel
          by_cases hltq : q < M
          · obtain ⟨x, hx⟩ : ∃ x, ns[q]? = some x := ⟨_, List.getElem?_eq_getElem (by rw [← HM.out]; exact hltq)⟩
            obtain ⟨b8, rfl, _, hcx⟩ := HT8.out q x hx
            have HDQ := Lib.hid (show ns.drop q = x :: ns.drop (q + 1) by
              rw [List.drop_eq_getElem_cons (by rw [← HM.out]; exact hltq)]
              congr 1
              rw [List.getElem?_eq_getElem (by rw [← HM.out]; exact hltq)] at hx
              injection hx)
            have HCX := Lib.hid hcx
            clear hx hcx
            go_wp2_with fail
            go_loopw [13] (fun a wr => ∃ (p : Nat), p ≤ L ∧ a = .int .i64 p ∧ Hid ((x :: ns.drop (q + 1)).Sublist (cs.drop p)) ∧ Below w8.heap.size w8 wr) (fun a _ => L - (intOf a).toNat)
            case atStart => exact ⟨p, hp, rfl, by rw [← HDQ.out]; exact hS, hBq⟩
            case round =>
              clear hp hS hBq
              obtain ⟨r, hr, rfl, hS, hBr⟩ := hrel
              have hrL : r < L := by
                rcases Nat.lt_or_ge r L with h' | h'
                · exact h'
                · have hz : cs.drop r = [] := List.drop_of_length_le (by rw [← HL.out]; omega)
                  have hh := hS.out
                  rw [hz] at hh
                  cases hh
              obtain ⟨y, hy⟩ : ∃ y, cs[r]? = some y := ⟨_, List.getElem?_eq_getElem (by rw [← HL.out]; exact hrL)⟩
              obtain ⟨bb, rfl, _, hcy⟩ := HTC.out r y hy
              have HDR := Lib.hid (show cs.drop r = y :: cs.drop (r + 1) by
                rw [List.drop_eq_getElem_cons (by rw [← HL.out]; exact hrL)]
                congr 1
                rw [List.getElem?_eq_getElem (by rw [← HL.out]; exact hrL)] at hy
                injection hy)
              have cY : wr.cell? ⟨bb, r, none⟩ = some (.string ⟨y.toArray⟩) := (hBr.cell (p := ⟨bb, r, none⟩) (World.block_lt_of_cell? _ _ hcy)).trans hcy
              have cX : wr.cell? ⟨b8, q, none⟩ = some (.string ⟨x.toArray⟩) := (hBr.cell (p := ⟨b8, q, none⟩) (World.block_lt_of_cell? _ _ HCX.out)).trans HCX.out
              have i0 : (0 : Int) ≤ (r : Int) := Int.natCast_nonneg _
              have i1 : (r : Int) < (L : Int) := by omega
              have i2 : (0 : Int) ≤ (q : Int) := Int.natCast_nonneg _
              have i3 : (q : Int) < (M : Int) := by omega
              have i4 : decide ((r : Int) < (L : Int)) = true := decide_eq_true i1
              have i5 : decide (r < L) = true := decide_eq_true hrL
              obtain ⟨Y, hY⟩ : ∃ Y : ByteArray, Y = ⟨y.toArray⟩ := ⟨_, rfl⟩
              obtain ⟨X, hX⟩ : ∃ X : ByteArray, X = ⟨x.toArray⟩ := ⟨_, rfl⟩
              rw [← hY] at cY
              rw [← hX] at cX
              clear hcy hy
              by_cases hxy : y = x
              · have hYX : Y = X := by rw [hY, hX, hxy]
                have HXY := Lib.hid hxy
                rw [hYX] at cY
                clear hxy hYX hY hX
                have e1 : (X.toList == X.toList) = true := by simp
                go_wp2_with fail
                go_quiet (fail)
                have hBn : Below w8.heap.size w8 (wr.drewN nq) := ⟨hBr.os, hBr.tape, hBr.output, hBr.size, hBr.block⟩
                generalize wr.drewN nq = wn at *
                have hne3 : ((r : Int) == (L : Int)) = false := by simp; omega
                have hne4 : (r == L) = false := by simp; omega
                go_wp2_with fail
                clear i0 i1 i2 i3 i4 i5 e1 hne3 hne4
                go_roundw
                case rel => exact ⟨r, q + 1, by omega, by omega, rfl, by go_num, sub_tail x _ _ hS.out, hBn⟩
                case measure => simp [intOf]; omega
              · have hYX : Y ≠ X := by
                  intro e
                  apply hxy
                  rw [hY, hX] at e
                  have := congrArg (fun z : ByteArray => z.data.toList) e
                  simpa using this
                have e1 : (Y.toList == X.toList) = false := str_ne hYX
                have HXY := Lib.hid hxy
                clear hxy hYX hY hX
                go_wp2_with fail
                go_quiet (fail)
                have hBn : Below w8.heap.size w8 (wr.drewN nq) := ⟨hBr.os, hBr.tape, hBr.output, hBr.size, hBr.block⟩
                generalize wr.drewN nq = wn at *
                go_wp2_with fail
                clear i0 i1 i2 i3 i4 i5 e1
                go_roundw
                case rel => exact ⟨r + 1, by omega, by go_num, sub_step x y _ _ (by rw [← HDR.out]; exact hS.out) HXY.out, hBn⟩
                case measure => simp [intOf]; omega
          · go_wp2_with fail
            refine (QI.out _).mono ?_
            rintro e w9 ⟨⟨v9, rfl, hres9⟩, hb9⟩
            obtain ⟨Ad9, cap9, rfl, hlc9, hcm9, htex9⟩ := res_texts hres9
            have hBf := (hB3.trans (hB8.mono hB3.size)).trans (hBq.mono (Nat.le_trans hB3.size hB8.size))
            have hBg := hBf.trans (hb9.mono hBf.size)
            obtain ⟨QL, hQL⟩ : ∃ QL, QL = qs.length := ⟨_, rfl⟩
            rw [← hQL] at hql hqm hlc9 ⊢
            clear hQL hres9 htex9
            go_wp2_with fail
            go_ret
            exact ⟨rfl, hBg⟩


theorem own : ownKnob Try.prog.godebug = none := by kernel_rfl
theorem laidOut : laidOutB Try.prog = true := by kernel_rfl

set_option maxRecDepth 100000 in
theorem lifted (os : Os) (started : os.Started) (H : Type) (enc : TypeId × Value → H) :
    ReturnsInHanded {} Try.checked os 4 .any (Rows.fnCoverSpec.pre6 enc Try.prog Try.f4 Rows.fnCoverRow.domain false) (Rows.fnCoverSpec.post enc Try.prog Try.f4 false true false false) := by
  refine returnsInHanded_of_change (C := Try.checked) own started (by kernel_rfl) Try.func4
    (ChangeSpec.witness6 (enc := enc) (C := Try.checked) false ⟨#[], #[.slice none 0 0], []⟩ 8 (by kernel_rfl) (by kernel_rfl) (by kernel_rfl) (by kernel_rfl)) ?_
  intro W base args ds gs before hval0 hW hcnd _
  have hval : ∀ (j : Nat) t v, Try.f4.params[j]? = some t → args[j]? = some v → Value.okWide Try.prog W .any base t v := hval0
  have hW' := hW
  obtain ⟨p, q, hA0, hV, rfl, hfz, hnd⟩ := hW
  have hA : DataW.TrodAll enc Try.prog W 0 (fun _ => true) true Try.f4.params.toList args.toList ds p := hA0
  rw [Try.params4] at hA hval
  obtain ⟨v0, vs0, d0, ds0, p0, q0, hargs, rfl, rfl, h0, r0⟩ := trodAll_cons hA
  obtain ⟨rfl, rfl, rfl⟩ := trodAll_nil r0
  obtain rfl : args = #[v0] := by cases args; simp_all
  obtain ⟨rfl, rfl⟩ := trodVars_none hV
  obtain ⟨a0, len0, cap0, rfl⟩ := okWide_slice Try.underlying22 (hval 0 22 v0 rfl rfl)
  have k0 := h0
  have lt0 : ∀ x ∈ p0, x.block < W.heap.size := by obtain ⟨m, hm⟩ := k0; exact DataW.trod_lt m _ _ _ hm
  have w0 : ArgB W a0 len0 cap0 := by
    obtain ⟨fuel, hf⟩ := h0
    rcases open_ints Try.underlying22 Try.underlying5 (by kernel_rfl) hf with ⟨hcs, _⟩ | ⟨x, l, c, zs, hcs, _, hl, hm, hz, _, hcell, hwz⟩
    · simp [Value.cells] at hcs
      obtain ⟨rfl, rfl, rfl⟩ := hcs
      exact ⟨Nat.le_refl _, Nat.zero_le _, fun h => absurd rfl h⟩
    · simp [Value.cells] at hcs
      obtain ⟨rfl, rfl, rfl⟩ := hcs
      exact argB_of W _ _ _ zs hl hm (by simpa using hz) hcell hwz
  clear hA0 hval0
  refine (walk_FnCover a0 len0 cap0 W w0).mono fun e W' ⟨he, bel⟩ => ?_
  subst he
  exact ⟨_, rfl, _, _, _, [], _, [], hW', trodAll_mk1 (shut_bool Try.underlying4 _), (trodAll_cons_mk (Below.trod laidOut (by kernel_rfl) (of_decide_eq_true (by kernel_rfl)) k0 bel lt0) trodAll_mk0), rfl, bel.frame _, fun h => by cases h⟩

theorem over : Rows.fnCoverRow.holds Try.pinned (OpenSpec.ofChange Rows.fnCoverSpec) :=
  OpenClaim.holds_of_wide 4 Try.f4 rfl rfl rfl rfl rfl rfl rfl ⟨rfl, rfl, rfl, rfl, rfl⟩ rfl rfl rfl rfl rfl (by kernel_rfl) Try.func4 (by kernel_rfl)
    (of_decide_eq_true (by kernel_rfl)) (by unfold Func.isWrapper; first | (rw [if_pos (by decide +kernel)]; kernel_rfl) | (rw [if_neg (by decide +kernel)]; exact ⟨rfl, rfl⟩))
    (fun os started H enc _ => lifted os started H enc)
end fnCover

theorem fnCover_holds : Rows.FnCoverSaid := fnCover.over
#print axioms fnCover_holds
end Go.Proofs.Ytknkhcaaadnaiaa
