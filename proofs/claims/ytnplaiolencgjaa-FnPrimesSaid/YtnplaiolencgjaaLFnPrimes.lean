/-
  'laws.FnPrimes' returns true for every input, and each argument reads behind the call as it read before. No conditions.
-/
import Derived.Test.YtnplaiolencgjaaRows
import Derived.Test.YtnplaiolencgjaaWy
import Derived.Test.YtnplaiolencgjaaWd4
import Derived.Test.YtnplaiolencgjaaWk4
import Derived.Test.YtnplaiolencgjaaWp3
import Derived.Test.YtnplaiolencgjaaWb
import Derived.Test.YtnplaiolencgjaaWv6
import Derived.WalkKit
import Derived.ProofKit
import Derived.OpenShut
import Derived.ShutString
import Derived.ChangeOld
import Derived.Below
import Derived.SliceStrings
namespace Go.Proofs.Ytnplaiolencgjaa
set_option linter.unusedVariables false
set_option linter.unusedSimpArgs false
namespace fnPrimes
open Go.ChangeShapes Go.WideShapes Go.ChangeAt Go.RowKit
open Go.ChangeMaps (open_string shut_string)
open Go.RowKit
set_option linter.unusedVariables false

set_option maxRecDepth 100000 in
set_option maxHeartbeats 4000000 in
theorem walk_FnPrimes (A : Option Addr) (n c : Nat) (w : World) (h : ArgB w A n c) :
    Calls Try.prog 3 #[.slice A n c] w fun e w' => e = .returned (.bool true) ∧ Below w.heap.size w w' := by
  have hnm := Nat.le_trans h.1 h.2.1
  unfold maxLen at hnm
  by_cases hbig : 1048576 < n
  · go_enter Try.func3, Try.ntmps3
    go_wp2_with fail
    go_ret
    exact ⟨rfl, Below.refl _ _⟩
  go_enter Try.func3, Try.ntmps3
  go_wp2_with fail
  refine (drawPrimesOfS A n c w h).mono ?_
  rintro e w1 ⟨F, hF, rfl, hB⟩
  clear h
  have fF : F.size ≤ maxLen := by unfold maxLen; omega
  have PI := Lib.hid (fun w => primesOfI F w fF)
  have PS := Lib.hid (fun w => primesOfS F w fF)
  cases hb : isTab F.data.toList
  · rw [prim_no _ hb] at PI PS
    have c1 := Lib.hid (fun w0 => (co w0 fun w => tableValidI F w fF).as (by rw [hb]))
    clear hb
    go_wp2_with fail
    refine (PI.out _).mono ?_
    rintro e w3 ⟨⟨v, rfl, hres⟩, hb3⟩
    have hB3 := hB.trans (hb3.mono hB.size)
    have hrow := Lib.hid hres.row
    obtain ⟨Ad, cap, rfl, hlc, hcm, htex⟩ := res_texts hres
    have HT := Lib.hid htex
    clear hres htex hb3 hB
    have hB : Below w3.heap.size w3 w3 := Below.refl _ _
    go_wp2_with fail
    refine (PS.out _).mono ?_
    rintro e w4 ⟨⟨v4, rfl, hres4⟩, hb4⟩
    have hB := hB.trans (hb4.mono hB.size)
    go_wp2_with fail
    refine (bnTextsL [] _ _ _ (by simp) (hrow.out.keep hB) hres4.row).mono ?_
    rintro e w5 ⟨rfl, hb5⟩
    have hB := hB.trans (hb5.mono hB.size)
    clear hres4 hb4 hb5
    go_wp2_with (first | (go_at_call 8; (with_reducible refine (((c1).out _).at hB).mono ?_); rintro e w1 ⟨rfl, hB⟩) | fail)
    refine (PS.out _).mono ?_
    rintro e w4 ⟨⟨v4, rfl, hres4⟩, hb4⟩
    have hB := hB.trans (hb4.mono hB.size)
    go_wp2_with fail
    refine (bnTextsL [] _ _ _ (by simp) (hrow.out.keep hB) hres4.row).mono ?_
    rintro e w5 ⟨rfl, hb5⟩
    have hB := hB.trans (hb5.mono hB.size)
    clear hres4 hb4 hb5
    go_wp2_with fail
    go_ret
    exact ⟨rfl, hB3.trans (hB.mono hB3.size)⟩
  · obtain ⟨N, h1, h5, hpl, c1, c2, cI, cN, hP, hpm, hto, htl⟩ := primFacts F hb
    have NI := Lib.hid (fun w => neededPrimesI F w fF)
    have NS := Lib.hid (fun w => neededPrimesS F w fF)
    have hnl := nee_le F.data.toList
    obtain ⟨ns, hns⟩ : ∃ ns, ns = neeL F.data.toList := ⟨_, rfl⟩
    rw [← hns] at NI NS hnl
    obtain ⟨ps, hps⟩ : ∃ ps, ps = primL F.data.toList := ⟨_, rfl⟩
    rw [← hps] at PI PS hpl cI cN hP hpm hto htl hnl
    clear hb hns hps
    go_wp2_with fail
    refine (PI.out _).mono ?_
    rintro e w3 ⟨⟨v, rfl, hres⟩, hb3⟩
    have hB3 := hB.trans (hb3.mono hB.size)
    have hrow := Lib.hid hres.row
    obtain ⟨Ad, cap, rfl, hlc, hcm, htex⟩ := res_texts hres
    have HT := Lib.hid htex
    clear hres htex hb3 hB
    have hB : Below w3.heap.size w3 w3 := Below.refl _ _
    obtain ⟨L, hL⟩ : ∃ L, L = ps.length := ⟨_, rfl⟩
    rw [← hL] at hpl hlc hrow hnl ⊢
    have HL := Lib.hid hL
    unfold maxLen at hcm
    clear hL
    go_wp2_with fail
    refine (PS.out _).mono ?_
    rintro e w4 ⟨⟨v4, rfl, hres4⟩, hb4⟩
    have hB := hB.trans (hb4.mono hB.size)
    go_wp2_with fail
    refine (bnTextsL ps _ _ _ (by rw [← HL.out]; omega) (hrow.out.keep hB) hres4.row).mono ?_
    rintro e w5 ⟨rfl, hb5⟩
    have hB := hB.trans (hb5.mono hB.size)
    clear hres4 hb4 hb5
    go_wp2_with (first | (go_at_call 8; (with_reducible refine (((c1).out _).at hB).mono ?_); rintro e w1 ⟨rfl, hB⟩) | fail)
    go_loopw [5] (fun j wr => ∃ k : Nat, k ≤ L ∧ j = .int .i64 k ∧ Below w3.heap.size w3 wr) (fun j _ => L - (intOf j).toNat)
    case atStart => exact ⟨0, Nat.zero_le _, rfl, hB⟩
    case round =>
      clear hB
      obtain ⟨k, hk, rfl, hB⟩ := hrel
      by_cases hlt : k < L
      · obtain ⟨t, ht⟩ : ∃ t, ps[k]? = some t := ⟨_, List.getElem?_eq_getElem (by rw [← HL.out]; exact hlt)⟩
        obtain ⟨bb, rfl, hbb, hc0⟩ := HT.out k t ht
        have HC3 := Lib.hid (show ∀ (j : Nat) t, ps[j]? = some t → w3.cell? ⟨bb, j, none⟩ = some (.string ⟨t.toArray⟩) from fun j t ht => by obtain ⟨b2, e2, _, h2⟩ := HT.out j t ht; cases e2; exact h2)
        have cK : wr.cell? ⟨bb, k, none⟩ = some (.string ⟨t.toArray⟩) := (hB.cell (p := ⟨bb, k, none⟩) (World.block_lt_of_cell? _ _ hc0)).trans hc0
        have hbw : bb < wr.heap.size := World.block_lt_of_cell? _ _ cK
        have CI := Lib.hid (cI.out t (List.mem_of_getElem? ht))
        have HTK := Lib.hid ht
        obtain ⟨P1, hP1⟩ : ∃ P1 : ByteArray, P1 = ⟨t.toArray⟩ := ⟨_, rfl⟩
        rw [← hP1] at cK CI
        have HP1 := Lib.hid hP1
        have q0 : (0 : Int) ≤ (k : Int) := Int.natCast_nonneg k
        have q1 : (k : Int) < (L : Int) := by omega
        clear hc0 ht hP1
        by_cases hk0 : k = 0
        · have z1 : decide ((0 : Int) < (k : Int)) = false := by simp; omega
          have z2 : decide (0 < k) = false := by simp; omega
          clear hk0
          go_wp2_with fail
          refine wp_region_held_drew (S := fun w' => w'.cell? ⟨bb, k, none⟩ = some (.string P1)) (by kernel_rfl) ?_ (fun hHeld => ?_)
          · go_keep
          refine wpAnyH_take (i := 0) (oi := { dst := some 42, op := _, type := _, pos := _, after := _, guard := _ }) (v := .string F) rfl (by kernel_rfl) (by kernel_rfl) (by kernel_rfl) (fun _ _ _ h => h) (Or.inl ⟨by rfl, fun w hSw => ?_⟩) (by assumption) ?_
          · (try dsimp only at hSw); go_simp
          try simp only [Act.put, List.setIfInBounds_toArray, List.set_cons_zero, List.set_cons_succ]
          refine wpAnyH_take (i := 1) (oi := { dst := some 43, op := _, type := _, pos := _, after := _, guard := _ }) (v := .slice (some ⟨bb, 0, none⟩) L cap) rfl (by kernel_rfl) (by kernel_rfl) (by kernel_rfl) (fun _ _ _ h => h) (Or.inl ⟨by rfl, fun w hSw => ?_⟩) (by assumption) ?_
          · (try dsimp only at hSw); go_simp
          try simp only [Act.put, List.setIfInBounds_toArray, List.set_cons_zero, List.set_cons_succ]
          refine wpAnyH_take (i := 2) (oi := { dst := some 44, op := _, type := _, pos := _, after := _, guard := _ }) (v := .int .i64 (k : Int)) rfl (by kernel_rfl) (by kernel_rfl) (by kernel_rfl) (fun _ _ _ h => h) (Or.inl ⟨by rfl, fun w hSw => ?_⟩) (by assumption) ?_
          · (try dsimp only at hSw); go_simp
          try simp only [Act.put, List.setIfInBounds_toArray, List.set_cons_zero, List.set_cons_succ]
          refine wpAnyH_take (i := 3) (oi := { dst := some 45, op := _, type := _, pos := _, after := _, guard := _ }) (v := .pointer (some ⟨bb, k, none⟩)) rfl (by kernel_rfl) (by kernel_rfl) (by kernel_rfl) (fun _ _ _ h => h) (Or.inl ⟨by rfl, fun w hSw => ?_⟩) (by assumption) ?_
          · (try dsimp only at hSw); go_simp
          try simp only [Act.put, List.setIfInBounds_toArray, List.set_cons_zero, List.set_cons_succ]
          refine wpAnyH_take (i := 4) (oi := { dst := some 46, op := _, type := _, pos := _, after := _, guard := _ }) (v := .string P1) rfl (by kernel_rfl) (by kernel_rfl) (by kernel_rfl) (fun _ _ _ h => h) (Or.inl ⟨by rfl, fun w hSw => ?_⟩) (by assumption) ?_
          · (try dsimp only at hSw); go_simp
          try simp only [Act.put, List.setIfInBounds_toArray, List.set_cons_zero, List.set_cons_succ]
          refine wpAnyH_ready (rs := [5]) (by kernel_rfl) (by simp) ?_
          refine AllReadyH.cons (o := { dst := some 47, op := _, type := _, pos := _, after := _, guard := _ }) rfl (fun K hK => ?_) AllReadyH.nil
          (go_simp; go_at_call 9; (with_reducible refine (CI.out _).mono ?_); rintro e w1 ⟨rfl, hb1⟩)
          refine hK.out _ _ ?_ (fun hHeld => ?_)
          · exact (hb1.cell (p := ⟨bb, k, none⟩) hbw).trans cK
          clear hK K
          try simp only [Act.put, List.setIfInBounds_toArray, List.set_cons_zero, List.set_cons_succ]
          refine wpAnyH_take (i := 6) (oi := { dst := some 48, op := _, type := _, pos := _, after := _, guard := _ }) (v := .bool false) rfl (by kernel_rfl) (by kernel_rfl) (by kernel_rfl) (fun _ _ _ h => h) (Or.inl ⟨by rfl, fun w hSw => ?_⟩) (by assumption) ?_
          · (try dsimp only at hSw); go_simp
          try simp only [Act.put, List.setIfInBounds_toArray, List.set_cons_zero, List.set_cons_succ]
          refine wpAnyH_take (i := 7) (oi := { dst := some 49, op := _, type := _, pos := _, after := _, guard := _ }) (v := .bool false) rfl (by kernel_rfl) (by kernel_rfl) (by kernel_rfl) (fun _ _ _ h => h) (Or.inl ⟨by rfl, fun w hSw => ?_⟩) (by assumption) ?_
          · (try dsimp only at hSw); go_simp
          try simp only [Act.put, List.setIfInBounds_toArray, List.set_cons_zero, List.set_cons_succ]
          refine wpAnyH_take (i := 8) (oi := { dst := some 50, op := _, type := _, pos := _, after := _, guard := _ }) (v := .int .i64 (k : Int)) rfl (by kernel_rfl) (by kernel_rfl) (by kernel_rfl) (fun _ _ _ h => h) (Or.inl ⟨by rfl, fun w hSw => ?_⟩) (by assumption) ?_
          · (try dsimp only at hSw); go_simp
          try simp only [Act.put, List.setIfInBounds_toArray, List.set_cons_zero, List.set_cons_succ]
          refine wpAnyH_take (i := 9) (oi := { dst := some 51, op := _, type := _, pos := _, after := _, guard := _ }) (v := .bool false) rfl (by kernel_rfl) (by kernel_rfl) (by kernel_rfl) (fun _ _ _ h => h) (Or.inl ⟨by rfl, fun w hSw => ?_⟩) (by assumption) ?_
          · (try dsimp only at hSw); go_simp
          try simp only [Act.put, List.setIfInBounds_toArray, List.set_cons_zero, List.set_cons_succ]
          refine wpAnyH_take (i := 10) (oi := { dst := some 52, op := _, type := _, pos := _, after := _, guard := _ }) (v := .bool false) rfl (by kernel_rfl) (by kernel_rfl) (by kernel_rfl) (fun _ _ _ h => h) (Or.inl ⟨by rfl, fun w hSw => ?_⟩) (by assumption) ?_
          · (try dsimp only at hSw); go_simp
          try simp only [Act.put, List.setIfInBounds_toArray, List.set_cons_zero, List.set_cons_succ]
          refine wpAnyH_take (i := 11) (oi := { dst := some 53, op := _, type := _, pos := _, after := _, guard := _ }) (v := undef) rfl (by kernel_rfl) (by kernel_rfl) (by kernel_rfl) (fun _ _ _ h => h) (Or.inr ⟨by rfl, rfl⟩) (by assumption) ?_
          try simp only [Act.put, List.setIfInBounds_toArray, List.set_cons_zero, List.set_cons_succ]
          refine wpAnyH_take (i := 12) (oi := { dst := some 54, op := _, type := _, pos := _, after := _, guard := _ }) (v := undef) rfl (by kernel_rfl) (by kernel_rfl) (by kernel_rfl) (fun _ _ _ h => h) (Or.inr ⟨by rfl, rfl⟩) (by assumption) ?_
          try simp only [Act.put, List.setIfInBounds_toArray, List.set_cons_zero, List.set_cons_succ]
          refine wpAnyH_take (i := 13) (oi := { dst := some 55, op := _, type := _, pos := _, after := _, guard := _ }) (v := undef) rfl (by kernel_rfl) (by kernel_rfl) (by kernel_rfl) (fun _ _ _ h => h) (Or.inr ⟨by rfl, rfl⟩) (by assumption) ?_
          try simp only [Act.put, List.setIfInBounds_toArray, List.set_cons_zero, List.set_cons_succ]
          refine wpAnyH_take (i := 14) (oi := { dst := some 56, op := _, type := _, pos := _, after := _, guard := _ }) (v := undef) rfl (by kernel_rfl) (by kernel_rfl) (by kernel_rfl) (fun _ _ _ h => h) (Or.inr ⟨by rfl, rfl⟩) (by assumption) ?_
          try simp only [Act.put, List.setIfInBounds_toArray, List.set_cons_zero, List.set_cons_succ]
          refine wpAnyH_take (i := 15) (oi := { dst := some 57, op := _, type := _, pos := _, after := _, guard := _ }) (v := undef) rfl (by kernel_rfl) (by kernel_rfl) (by kernel_rfl) (fun _ _ _ h => h) (Or.inr ⟨by rfl, rfl⟩) (by assumption) ?_
          try simp only [Act.put, List.setIfInBounds_toArray, List.set_cons_zero, List.set_cons_succ]
          refine wpAnyH_take (i := 16) (oi := { dst := some 58, op := _, type := _, pos := _, after := _, guard := _ }) (v := undef) rfl (by kernel_rfl) (by kernel_rfl) (by kernel_rfl) (fun _ _ _ h => h) (Or.inr ⟨by rfl, rfl⟩) (by assumption) ?_
          try simp only [Act.put, List.setIfInBounds_toArray, List.set_cons_zero, List.set_cons_succ]
          refine wpAnyH_take (i := 17) (oi := { dst := some 59, op := _, type := _, pos := _, after := _, guard := _ }) (v := undef) rfl (by kernel_rfl) (by kernel_rfl) (by kernel_rfl) (fun _ _ _ h => h) (Or.inr ⟨by rfl, rfl⟩) (by assumption) ?_
          try simp only [Act.put, List.setIfInBounds_toArray, List.set_cons_zero, List.set_cons_succ]
          refine wpAnyH_take (i := 18) (oi := { dst := some 60, op := _, type := _, pos := _, after := _, guard := _ }) (v := undef) rfl (by kernel_rfl) (by kernel_rfl) (by kernel_rfl) (fun _ _ _ h => h) (Or.inr ⟨by rfl, rfl⟩) (by assumption) ?_
          try simp only [Act.put, List.setIfInBounds_toArray, List.set_cons_zero, List.set_cons_succ]
          refine wpAnyH_take (i := 19) (oi := { dst := some 61, op := _, type := _, pos := _, after := _, guard := _ }) (v := undef) rfl (by kernel_rfl) (by kernel_rfl) (by kernel_rfl) (fun _ _ _ h => h) (Or.inr ⟨by rfl, rfl⟩) (by assumption) ?_
          try simp only [Act.put, List.setIfInBounds_toArray, List.set_cons_zero, List.set_cons_succ]
          refine wpAnyH_take (i := 20) (oi := { dst := some 62, op := _, type := _, pos := _, after := _, guard := _ }) (v := undef) rfl (by kernel_rfl) (by kernel_rfl) (by kernel_rfl) (fun _ _ _ h => h) (Or.inr ⟨by rfl, rfl⟩) (by assumption) ?_
          try simp only [Act.put, List.setIfInBounds_toArray, List.set_cons_zero, List.set_cons_succ]
          refine wpAnyH_take (i := 21) (oi := { dst := some 63, op := _, type := _, pos := _, after := _, guard := _ }) (v := .bool false) rfl (by kernel_rfl) (by kernel_rfl) (by kernel_rfl) (fun _ _ _ h => h) (Or.inl ⟨by rfl, fun w hSw => ?_⟩) (by assumption) ?_
          · (try dsimp only at hSw); go_simp
          try simp only [Act.put, List.setIfInBounds_toArray, List.set_cons_zero, List.set_cons_succ]
          refine wpAnyH_take (i := 22) (oi := { dst := some 64, op := _, type := _, pos := _, after := _, guard := _ }) (v := .bool false) rfl (by kernel_rfl) (by kernel_rfl) (by kernel_rfl) (fun _ _ _ h => h) (Or.inl ⟨by rfl, fun w hSw => ?_⟩) (by assumption) ?_
          · (try dsimp only at hSw); go_simp
          try simp only [Act.put, List.setIfInBounds_toArray, List.set_cons_zero, List.set_cons_succ]
          refine wpAnyH_done (by kernel_rfl) ?_ _
          have hBd : Below wr.heap.size wr wr.drew := ⟨rfl, rfl, rfl, Nat.le_refl _, fun _ _ => rfl⟩
          have hB2 := hB.trans ((hBd.trans hb1).mono hB.size)
          clear hb1 hBd hHeld z1 z2
          go_wp2_with fail
          go_loopw [6] (fun j wr => ∃ m : Nat, m ≤ L ∧ j = .int .i64 m ∧ Below w3.heap.size w3 wr) (fun j _ => L - (intOf j).toNat)
          case atStart => exact ⟨0, Nat.zero_le _, rfl, hB2⟩
          case round =>
            clear hB2 cK hbw
            obtain ⟨m, hm, rfl, hBq⟩ := hrel
            by_cases hml : m < L
            · by_cases hmk : k = m
              · subst hmk
                clear hB
                go_wp2_with fail
                go_quiet (fail)
                go_wp2_with fail
                go_roundw
                case rel => exact ⟨k + 1, by omega, by go_num, hBq.trans ⟨rfl, rfl, rfl, Nat.le_refl _, fun _ _ => rfl⟩⟩
                case measure => simp [intOf]; omega
              · obtain ⟨t2, ht2⟩ : ∃ t, ps[m]? = some t := ⟨_, List.getElem?_eq_getElem (by rw [← HL.out]; exact hml)⟩
                have cA : wr.cell? ⟨bb, k, none⟩ = some (.string P1) := by rw [HP1.out]; exact (hBq.cell (p := ⟨bb, k, none⟩) (World.block_lt_of_cell? _ _ (HC3.out k t HTK.out))).trans (HC3.out k t HTK.out)
                have cB : wr.cell? ⟨bb, m, none⟩ = some (.string ⟨t2.toArray⟩) := (hBq.cell (p := ⟨bb, m, none⟩) (World.block_lt_of_cell? _ _ (HC3.out m t2 ht2))).trans (HC3.out m t2 ht2)
                have hbq : bb < wr.heap.size := World.block_lt_of_cell? _ _ cA
                have hne := pairNe ps hP.out k m t t2 HTK.out ht2 hmk
                have CN := Lib.hid (cN.out t (List.mem_of_getElem? HTK.out) t2 (List.mem_of_getElem? ht2) hne)
                rw [← HP1.out] at CN
                obtain ⟨P2, hP2⟩ : ∃ P2 : ByteArray, P2 = ⟨t2.toArray⟩ := ⟨_, rfl⟩
                rw [← hP2] at cB CN
                have y1 : ((k : Int) != (m : Int)) = true := by rw [bne_iff_ne]; omega
                have y2 : (0 : Int) ≤ (m : Int) := Int.natCast_nonneg m
                have y3 : (m : Int) < (L : Int) := by omega
                clear hne ht2 hP2 hmk
                go_wp2_with fail
                go_region_held3 (fun w' => w'.cell? ⟨bb, k, none⟩ = some (.string P1) ∧ w'.cell? ⟨bb, m, none⟩ = some (.string P2))
                  (first | go_keep | exact ⟨(hb1.cell (p := ⟨bb, k, none⟩) hbq).trans cA, (hb1.cell (p := ⟨bb, m, none⟩) hbq).trans cB⟩)
                  (first | (go_at_call 10; (with_reducible refine (CN.out _).mono ?_); rintro e w1 ⟨rfl, hb1⟩))
                have hBd2 : Below wr.heap.size wr wr.drew := ⟨rfl, rfl, rfl, Nat.le_refl _, fun _ _ => rfl⟩
                have hBn := hBq.trans ((hBd2.trans hb1).mono hBq.size)
                clear hb1 hBd2 cA cB y1
                go_wp2_with fail
                go_roundw
                case rel => exact ⟨m + 1, by omega, by go_num, hBn⟩
                case measure => simp [intOf]; omega
            · obtain rfl : m = L := by omega
              go_wp2_with fail
              go_roundw
              case rel => exact ⟨k + 1, by omega, by go_num, hBq⟩
              case measure => simp [intOf]; omega
        · obtain ⟨k0, hk1⟩ : ∃ k0, k = k0 + 1 := ⟨k - 1, by omega⟩
          obtain ⟨t0, ht0⟩ : ∃ t0, ps[k0]? = some t0 := ⟨_, List.getElem?_eq_getElem (by rw [← HL.out]; omega)⟩
          have hc1 := HC3.out k0 t0 ht0
          have cK0 : wr.cell? ⟨bb, k0, none⟩ = some (.string ⟨t0.toArray⟩) := (hB.cell (p := ⟨bb, k0, none⟩) (World.block_lt_of_cell? _ _ hc1)).trans hc1
          obtain ⟨P0, hP0⟩ : ∃ P0 : ByteArray, P0 = ⟨t0.toArray⟩ := ⟨_, rfl⟩
          rw [← hP0] at cK0
          have hle := leFalse ps hP.out k0 t0 t ht0 (by rw [← hk1]; exact HTK.out) P0 P1 hP0 HP1.out
          have z1 : decide ((0 : Int) < (k : Int)) = true := by simp; omega
          have z2 : decide (0 < k) = true := by simp; omega
          have z3 : (k : Int) - 1 = (k0 : Int) := by omega
          have z4 : (0 : Int) ≤ (k0 : Int) := Int.natCast_nonneg k0
          have z5 : (k0 : Int) < (L : Int) := by omega
          have z6 : IntKind.i64.wrap (k0 : Int) = (k0 : Int) := IntWalk.i64_in _ (by omega)
          clear hk0 hk1 ht0 hc1 hP0
          go_wp2_with fail
          refine wp_region_held_drew (S := fun w' => w'.cell? ⟨bb, k, none⟩ = some (.string P1) ∧ w'.cell? ⟨bb, k0, none⟩ = some (.string P0)) (by kernel_rfl) ?_ (fun hHeld => ?_)
          · go_keep
          refine wpAnyH_take (i := 0) (oi := { dst := some 42, op := _, type := _, pos := _, after := _, guard := _ }) (v := .string F) rfl (by kernel_rfl) (by kernel_rfl) (by kernel_rfl) (fun _ _ _ h => h) (Or.inl ⟨by rfl, fun w hSw => ?_⟩) (by assumption) ?_
          · (try dsimp only at hSw); go_simp
          try simp only [Act.put, List.setIfInBounds_toArray, List.set_cons_zero, List.set_cons_succ]
          refine wpAnyH_take (i := 1) (oi := { dst := some 43, op := _, type := _, pos := _, after := _, guard := _ }) (v := .slice (some ⟨bb, 0, none⟩) L cap) rfl (by kernel_rfl) (by kernel_rfl) (by kernel_rfl) (fun _ _ _ h => h) (Or.inl ⟨by rfl, fun w hSw => ?_⟩) (by assumption) ?_
          · (try dsimp only at hSw); go_simp
          try simp only [Act.put, List.setIfInBounds_toArray, List.set_cons_zero, List.set_cons_succ]
          refine wpAnyH_take (i := 2) (oi := { dst := some 44, op := _, type := _, pos := _, after := _, guard := _ }) (v := .int .i64 (k : Int)) rfl (by kernel_rfl) (by kernel_rfl) (by kernel_rfl) (fun _ _ _ h => h) (Or.inl ⟨by rfl, fun w hSw => ?_⟩) (by assumption) ?_
          · (try dsimp only at hSw); go_simp
          try simp only [Act.put, List.setIfInBounds_toArray, List.set_cons_zero, List.set_cons_succ]
          refine wpAnyH_take (i := 3) (oi := { dst := some 45, op := _, type := _, pos := _, after := _, guard := _ }) (v := .pointer (some ⟨bb, k, none⟩)) rfl (by kernel_rfl) (by kernel_rfl) (by kernel_rfl) (fun _ _ _ h => h) (Or.inl ⟨by rfl, fun w hSw => ?_⟩) (by assumption) ?_
          · (try dsimp only at hSw); go_simp
          try simp only [Act.put, List.setIfInBounds_toArray, List.set_cons_zero, List.set_cons_succ]
          refine wpAnyH_take (i := 4) (oi := { dst := some 46, op := _, type := _, pos := _, after := _, guard := _ }) (v := .string P1) rfl (by kernel_rfl) (by kernel_rfl) (by kernel_rfl) (fun _ _ _ h => h) (Or.inl ⟨by rfl, fun w hSw => ?_⟩) (by assumption) ?_
          · (try dsimp only at hSw); go_simp
          try simp only [Act.put, List.setIfInBounds_toArray, List.set_cons_zero, List.set_cons_succ]
          refine wpAnyH_ready (rs := [5]) (by kernel_rfl) (by simp) ?_
          refine AllReadyH.cons (o := { dst := some 47, op := _, type := _, pos := _, after := _, guard := _ }) rfl (fun K hK => ?_) AllReadyH.nil
          (go_simp; go_at_call 9; (with_reducible refine (CI.out _).mono ?_); rintro e w1 ⟨rfl, hb1⟩)
          refine hK.out _ _ ?_ (fun hHeld => ?_)
          · exact ⟨(hb1.cell (p := ⟨bb, k, none⟩) hbw).trans cK, (hb1.cell (p := ⟨bb, k0, none⟩) hbw).trans cK0⟩
          clear hK K
          try simp only [Act.put, List.setIfInBounds_toArray, List.set_cons_zero, List.set_cons_succ]
          refine wpAnyH_take (i := 6) (oi := { dst := some 48, op := _, type := _, pos := _, after := _, guard := _ }) (v := .bool false) rfl (by kernel_rfl) (by kernel_rfl) (by kernel_rfl) (fun _ _ _ h => h) (Or.inl ⟨by rfl, fun w hSw => ?_⟩) (by assumption) ?_
          · (try dsimp only at hSw); go_simp
          try simp only [Act.put, List.setIfInBounds_toArray, List.set_cons_zero, List.set_cons_succ]
          refine wpAnyH_take (i := 7) (oi := { dst := some 49, op := _, type := _, pos := _, after := _, guard := _ }) (v := .bool false) rfl (by kernel_rfl) (by kernel_rfl) (by kernel_rfl) (fun _ _ _ h => h) (Or.inl ⟨by rfl, fun w hSw => ?_⟩) (by assumption) ?_
          · (try dsimp only at hSw); go_simp
          try simp only [Act.put, List.setIfInBounds_toArray, List.set_cons_zero, List.set_cons_succ]
          refine wpAnyH_take (i := 8) (oi := { dst := some 50, op := _, type := _, pos := _, after := _, guard := _ }) (v := .int .i64 (k : Int)) rfl (by kernel_rfl) (by kernel_rfl) (by kernel_rfl) (fun _ _ _ h => h) (Or.inl ⟨by rfl, fun w hSw => ?_⟩) (by assumption) ?_
          · (try dsimp only at hSw); go_simp
          try simp only [Act.put, List.setIfInBounds_toArray, List.set_cons_zero, List.set_cons_succ]
          refine wpAnyH_take (i := 9) (oi := { dst := some 51, op := _, type := _, pos := _, after := _, guard := _ }) (v := .bool true) rfl (by kernel_rfl) (by kernel_rfl) (by kernel_rfl) (fun _ _ _ h => h) (Or.inl ⟨by rfl, fun w hSw => ?_⟩) (by assumption) ?_
          · (try dsimp only at hSw); go_simp
          try simp only [Act.put, List.setIfInBounds_toArray, List.set_cons_zero, List.set_cons_succ]
          refine wpAnyH_take (i := 10) (oi := { dst := some 52, op := _, type := _, pos := _, after := _, guard := _ }) (v := .bool true) rfl (by kernel_rfl) (by kernel_rfl) (by kernel_rfl) (fun _ _ _ h => h) (Or.inl ⟨by rfl, fun w hSw => ?_⟩) (by assumption) ?_
          · (try dsimp only at hSw); go_simp
          try simp only [Act.put, List.setIfInBounds_toArray, List.set_cons_zero, List.set_cons_succ]
          refine wpAnyH_take (i := 11) (oi := { dst := some 53, op := _, type := _, pos := _, after := _, guard := _ }) (v := .slice (some ⟨bb, 0, none⟩) L cap) rfl (by kernel_rfl) (by kernel_rfl) (by kernel_rfl) (fun _ _ _ h => h) (Or.inl ⟨by rfl, fun w hSw => ?_⟩) (by assumption) ?_
          · (try dsimp only at hSw); go_simp
          try simp only [Act.put, List.setIfInBounds_toArray, List.set_cons_zero, List.set_cons_succ]
          refine wpAnyH_take (i := 12) (oi := { dst := some 54, op := _, type := _, pos := _, after := _, guard := _ }) (v := .int .i64 (k : Int)) rfl (by kernel_rfl) (by kernel_rfl) (by kernel_rfl) (fun _ _ _ h => h) (Or.inl ⟨by rfl, fun w hSw => ?_⟩) (by assumption) ?_
          · (try dsimp only at hSw); go_simp
          try simp only [Act.put, List.setIfInBounds_toArray, List.set_cons_zero, List.set_cons_succ]
          refine wpAnyH_take (i := 13) (oi := { dst := some 55, op := _, type := _, pos := _, after := _, guard := _ }) (v := .pointer (some ⟨bb, k, none⟩)) rfl (by kernel_rfl) (by kernel_rfl) (by kernel_rfl) (fun _ _ _ h => h) (Or.inl ⟨by rfl, fun w hSw => ?_⟩) (by assumption) ?_
          · (try dsimp only at hSw); go_simp
          try simp only [Act.put, List.setIfInBounds_toArray, List.set_cons_zero, List.set_cons_succ]
          refine wpAnyH_take (i := 14) (oi := { dst := some 56, op := _, type := _, pos := _, after := _, guard := _ }) (v := .string P1) rfl (by kernel_rfl) (by kernel_rfl) (by kernel_rfl) (fun _ _ _ h => h) (Or.inl ⟨by rfl, fun w hSw => ?_⟩) (by assumption) ?_
          · (try dsimp only at hSw); go_simp
          try simp only [Act.put, List.setIfInBounds_toArray, List.set_cons_zero, List.set_cons_succ]
          refine wpAnyH_take (i := 15) (oi := { dst := some 57, op := _, type := _, pos := _, after := _, guard := _ }) (v := .slice (some ⟨bb, 0, none⟩) L cap) rfl (by kernel_rfl) (by kernel_rfl) (by kernel_rfl) (fun _ _ _ h => h) (Or.inl ⟨by rfl, fun w hSw => ?_⟩) (by assumption) ?_
          · (try dsimp only at hSw); go_simp
          try simp only [Act.put, List.setIfInBounds_toArray, List.set_cons_zero, List.set_cons_succ]
          refine wpAnyH_take (i := 16) (oi := { dst := some 58, op := _, type := _, pos := _, after := _, guard := _ }) (v := .int .i64 (k : Int)) rfl (by kernel_rfl) (by kernel_rfl) (by kernel_rfl) (fun _ _ _ h => h) (Or.inl ⟨by rfl, fun w hSw => ?_⟩) (by assumption) ?_
          · (try dsimp only at hSw); go_simp
          try simp only [Act.put, List.setIfInBounds_toArray, List.set_cons_zero, List.set_cons_succ]
          refine wpAnyH_take (i := 17) (oi := { dst := some 59, op := _, type := _, pos := _, after := _, guard := _ }) (v := .int .i64 (k0 : Int)) rfl (by kernel_rfl) (by kernel_rfl) (by kernel_rfl) (fun _ _ _ h => h) (Or.inl ⟨by rfl, fun w hSw => ?_⟩) (by assumption) ?_
          · (try dsimp only at hSw); go_simp
          try simp only [Act.put, List.setIfInBounds_toArray, List.set_cons_zero, List.set_cons_succ]
          refine wpAnyH_take (i := 18) (oi := { dst := some 60, op := _, type := _, pos := _, after := _, guard := _ }) (v := .pointer (some ⟨bb, k0, none⟩)) rfl (by kernel_rfl) (by kernel_rfl) (by kernel_rfl) (fun _ _ _ h => h) (Or.inl ⟨by rfl, fun w hSw => ?_⟩) (by assumption) ?_
          · (try dsimp only at hSw); go_simp
          try simp only [Act.put, List.setIfInBounds_toArray, List.set_cons_zero, List.set_cons_succ]
          refine wpAnyH_take (i := 19) (oi := { dst := some 61, op := _, type := _, pos := _, after := _, guard := _ }) (v := .string P0) rfl (by kernel_rfl) (by kernel_rfl) (by kernel_rfl) (fun _ _ _ h => h) (Or.inl ⟨by rfl, fun w hSw => ?_⟩) (by assumption) ?_
          · (try dsimp only at hSw); go_simp
          try simp only [Act.put, List.setIfInBounds_toArray, List.set_cons_zero, List.set_cons_succ]
          refine wpAnyH_take (i := 20) (oi := { dst := some 62, op := _, type := _, pos := _, after := _, guard := _ }) (v := .bool false) rfl (by kernel_rfl) (by kernel_rfl) (by kernel_rfl) (fun _ _ _ h => h) (Or.inl ⟨by rfl, fun w hSw => ?_⟩) (by assumption) ?_
          · (try dsimp only at hSw); go_simp
          try simp only [Act.put, List.setIfInBounds_toArray, List.set_cons_zero, List.set_cons_succ]
          refine wpAnyH_take (i := 21) (oi := { dst := some 63, op := _, type := _, pos := _, after := _, guard := _ }) (v := .bool false) rfl (by kernel_rfl) (by kernel_rfl) (by kernel_rfl) (fun _ _ _ h => h) (Or.inl ⟨by rfl, fun w hSw => ?_⟩) (by assumption) ?_
          · (try dsimp only at hSw); go_simp
          try simp only [Act.put, List.setIfInBounds_toArray, List.set_cons_zero, List.set_cons_succ]
          refine wpAnyH_take (i := 22) (oi := { dst := some 64, op := _, type := _, pos := _, after := _, guard := _ }) (v := .bool false) rfl (by kernel_rfl) (by kernel_rfl) (by kernel_rfl) (fun _ _ _ h => h) (Or.inl ⟨by rfl, fun w hSw => ?_⟩) (by assumption) ?_
          · (try dsimp only at hSw); go_simp
          try simp only [Act.put, List.setIfInBounds_toArray, List.set_cons_zero, List.set_cons_succ]
          refine wpAnyH_done (by kernel_rfl) ?_ _
          have hBd : Below wr.heap.size wr wr.drew := ⟨rfl, rfl, rfl, Nat.le_refl _, fun _ _ => rfl⟩
          have hB2 := hB.trans ((hBd.trans hb1).mono hB.size)
          clear hb1 hBd hHeld z1 z2 z3 z4 z5 z6 hle cK0
          go_wp2_with fail
          go_loopw [6] (fun j wr => ∃ m : Nat, m ≤ L ∧ j = .int .i64 m ∧ Below w3.heap.size w3 wr) (fun j _ => L - (intOf j).toNat)
          case atStart => exact ⟨0, Nat.zero_le _, rfl, hB2⟩
          case round =>
            clear hB2 cK hbw
            obtain ⟨m, hm, rfl, hBq⟩ := hrel
            by_cases hml : m < L
            · by_cases hmk : k = m
              · subst hmk
                clear hB
                go_wp2_with fail
                go_quiet (fail)
                go_wp2_with fail
                go_roundw
                case rel => exact ⟨k + 1, by omega, by go_num, hBq.trans ⟨rfl, rfl, rfl, Nat.le_refl _, fun _ _ => rfl⟩⟩
                case measure => simp [intOf]; omega
              · obtain ⟨t2, ht2⟩ : ∃ t, ps[m]? = some t := ⟨_, List.getElem?_eq_getElem (by rw [← HL.out]; exact hml)⟩
                have cA : wr.cell? ⟨bb, k, none⟩ = some (.string P1) := by rw [HP1.out]; exact (hBq.cell (p := ⟨bb, k, none⟩) (World.block_lt_of_cell? _ _ (HC3.out k t HTK.out))).trans (HC3.out k t HTK.out)
                have cB : wr.cell? ⟨bb, m, none⟩ = some (.string ⟨t2.toArray⟩) := (hBq.cell (p := ⟨bb, m, none⟩) (World.block_lt_of_cell? _ _ (HC3.out m t2 ht2))).trans (HC3.out m t2 ht2)
                have hbq : bb < wr.heap.size := World.block_lt_of_cell? _ _ cA
                have hne := pairNe ps hP.out k m t t2 HTK.out ht2 hmk
                have CN := Lib.hid (cN.out t (List.mem_of_getElem? HTK.out) t2 (List.mem_of_getElem? ht2) hne)
                rw [← HP1.out] at CN
                obtain ⟨P2, hP2⟩ : ∃ P2 : ByteArray, P2 = ⟨t2.toArray⟩ := ⟨_, rfl⟩
                rw [← hP2] at cB CN
                have y1 : ((k : Int) != (m : Int)) = true := by rw [bne_iff_ne]; omega
                have y2 : (0 : Int) ≤ (m : Int) := Int.natCast_nonneg m
                have y3 : (m : Int) < (L : Int) := by omega
                clear hne ht2 hP2 hmk
                go_wp2_with fail
                go_region_held3 (fun w' => w'.cell? ⟨bb, k, none⟩ = some (.string P1) ∧ w'.cell? ⟨bb, m, none⟩ = some (.string P2))
                  (first | go_keep | exact ⟨(hb1.cell (p := ⟨bb, k, none⟩) hbq).trans cA, (hb1.cell (p := ⟨bb, m, none⟩) hbq).trans cB⟩)
                  (first | (go_at_call 10; (with_reducible refine (CN.out _).mono ?_); rintro e w1 ⟨rfl, hb1⟩))
                have hBd2 : Below wr.heap.size wr wr.drew := ⟨rfl, rfl, rfl, Nat.le_refl _, fun _ _ => rfl⟩
                have hBn := hBq.trans ((hBd2.trans hb1).mono hBq.size)
                clear hb1 hBd2 cA cB y1
                go_wp2_with fail
                go_roundw
                case rel => exact ⟨m + 1, by omega, by go_num, hBn⟩
                case measure => simp [intOf]; omega
            · obtain rfl : m = L := by omega
              go_wp2_with fail
              go_roundw
              case rel => exact ⟨k + 1, by omega, by go_num, hBq⟩
              case measure => simp [intOf]; omega
      · obtain rfl : k = L := by omega
        have TT := Lib.hid (fun w h => tableOfTermsI ps (.slice Ad k cap) (N : Int) w (by rw [← HL.out]; omega) hpm.out h)
        rw [hto.out, strI_true, Int.toNat_natCast, htl.out] at TT
        go_wp2_with (first | (go_at_call 12; (with_reducible refine (((c2).out _).at hB).mono ?_); rintro e w1 ⟨rfl, hB⟩) | fail)
        refine (TT.out _ (hrow.out.keep hB)).mono ?_
        rintro e w6 ⟨rfl, hb6⟩
        have hB := hB.trans (hb6.mono hB.size)
        clear hb6
        go_wp2_with fail
        refine (NI.out _).mono ?_
        rintro e w7 ⟨⟨v7, rfl, hres7⟩, hb7⟩
        have hB := hB.trans (hb7.mono hB.size)
        have hrow7 := Lib.hid hres7.row
        obtain ⟨A7, c7, rfl, hlc7, hcm7, htex7⟩ := res_texts hres7
        unfold maxLen at hcm7
        clear hres7 hb7 htex7
        go_wp2_with fail
        refine (NS.out _).mono ?_
        rintro e w8 ⟨⟨v8, rfl, hres8⟩, hb8⟩
        have hB := hB.trans (hb8.mono hB.size)
        have hrow8 := hrow7.out.keep hb8
        go_wp2_with fail
        refine (bnTextsL ns _ _ _ (by omega) hrow8 hres8.row).mono ?_
        rintro e w9 ⟨rfl, hb9⟩
        have hB := hB.trans (hb9.mono hB.size)
        go_wp2_with fail
        go_ret
        exact ⟨rfl, hB3.trans (hB.mono hB3.size)⟩


theorem own : ownKnob Try.prog.godebug = none := by kernel_rfl
theorem laidOut : laidOutB Try.prog = true := by kernel_rfl

set_option maxRecDepth 100000 in
theorem lifted (os : Os) (started : os.Started) (H : Type) (enc : TypeId × Value → H) :
    ReturnsInHanded {} Try.checked os 3 .any (Rows.fnPrimesSpec.pre6 enc Try.prog Try.f3 Rows.fnPrimesRow.domain false) (Rows.fnPrimesSpec.post enc Try.prog Try.f3 false true false false) := by
  refine returnsInHanded_of_change (C := Try.checked) own started (by kernel_rfl) Try.func3
    (ChangeSpec.witness6 (enc := enc) (C := Try.checked) false ⟨#[], #[.slice none 0 0], []⟩ 8 (by kernel_rfl) (by kernel_rfl) (by kernel_rfl) (by kernel_rfl)) ?_
  intro W base args ds gs before hval0 hW hcnd _
  have hval : ∀ (j : Nat) t v, Try.f3.params[j]? = some t → args[j]? = some v → Value.okWide Try.prog W .any base t v := hval0
  have hW' := hW
  obtain ⟨p, q, hA0, hV, rfl, hfz, hnd⟩ := hW
  have hA : DataW.TrodAll enc Try.prog W 0 (fun _ => true) true Try.f3.params.toList args.toList ds p := hA0
  rw [Try.params3] at hA hval
  obtain ⟨v0, vs0, d0, ds0, p0, q0, hargs, rfl, rfl, h0, r0⟩ := trodAll_cons hA
  obtain ⟨rfl, rfl, rfl⟩ := trodAll_nil r0
  obtain rfl : args = #[v0] := by cases args; simp_all
  obtain ⟨rfl, rfl⟩ := trodVars_none hV
  obtain ⟨a0, len0, cap0, rfl⟩ := okWide_slice Try.underlying22 (hval 0 22 v0 rfl rfl)
  have k0 := h0
  have lt0 : ∀ x ∈ p0, x.block < W.heap.size := by obtain ⟨m, hm⟩ := k0; exact DataW.trod_lt m _ _ _ hm
  have w0 : ArgB W a0 len0 cap0 := by
    obtain ⟨fuel, hf⟩ := h0
    rcases open_ints Try.underlying22 Try.underlying5 (by kernel_rfl) hf with ⟨hcs, _⟩ | ⟨x, l, c, zs, hcs, _, hl, hm, hz, _, hcell, hwz⟩
    · simp [Value.cells] at hcs
      obtain ⟨rfl, rfl, rfl⟩ := hcs
      exact ⟨Nat.le_refl _, Nat.zero_le _, fun h => absurd rfl h⟩
    · simp [Value.cells] at hcs
      obtain ⟨rfl, rfl, rfl⟩ := hcs
      exact argB_of W _ _ _ zs hl hm (by simpa using hz) hcell hwz
  clear hA0 hval0
  refine (walk_FnPrimes a0 len0 cap0 W w0).mono fun e W' ⟨he, bel⟩ => ?_
  subst he
  exact ⟨_, rfl, _, _, _, [], _, [], hW', trodAll_mk1 (shut_bool Try.underlying4 _), (trodAll_cons_mk (Below.trod laidOut (by kernel_rfl) (of_decide_eq_true (by kernel_rfl)) k0 bel lt0) trodAll_mk0), rfl, bel.frame _, fun h => by cases h⟩

theorem over : Rows.fnPrimesRow.holds Try.pinned (OpenSpec.ofChange Rows.fnPrimesSpec) :=
  OpenClaim.holds_of_wide 3 Try.f3 rfl rfl rfl rfl rfl rfl rfl ⟨rfl, rfl, rfl, rfl, rfl⟩ rfl rfl rfl rfl rfl (by kernel_rfl) Try.func3 (by kernel_rfl)
    (of_decide_eq_true (by kernel_rfl)) (by unfold Func.isWrapper; first | (rw [if_pos (by decide +kernel)]; kernel_rfl) | (rw [if_neg (by decide +kernel)]; exact ⟨rfl, rfl⟩))
    (fun os started H enc _ => lifted os started H enc)
end fnPrimes

theorem fnPrimes_holds : Rows.FnPrimesSaid := fnPrimes.over
#print axioms fnPrimes_holds
end Go.Proofs.Ytnplaiolencgjaa
