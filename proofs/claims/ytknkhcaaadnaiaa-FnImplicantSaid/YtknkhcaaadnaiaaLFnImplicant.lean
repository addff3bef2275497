/-
  'laws.FnImplicant' returns true for every input, and each argument reads behind the call as it read before. No conditions.
-/
import Derived.Test.YtknkhcaaadnaiaaRows
import Derived.Test.YtknkhcaaadnaiaaWx
import Derived.Test.YtknkhcaaadnaiaaPj
import Derived.Test.YtknkhcaaadnaiaaWd4
import Derived.Test.YtknkhcaaadnaiaaWk3
import Derived.Test.YtknkhcaaadnaiaaWk4
import Derived.Test.YtknkhcaaadnaiaaWp3
import Derived.Test.YtknkhcaaadnaiaaWn
import Derived.WalkKit
import Derived.ProofKit
import Derived.OpenShut
import Derived.ShutString
import Derived.ChangeOld
import Derived.Below
import Derived.SliceStrings
namespace Go.Proofs.Ytknkhcaaadnaiaa
set_option linter.unusedVariables false
set_option linter.unusedSimpArgs false
namespace fnImplicant
open Go.ChangeShapes Go.WideShapes Go.ChangeAt Go.RowKit
open Go.ChangeMaps (open_string shut_string)
open Go.RowKit
set_option linter.unusedVariables false

theorem imp_no (l t : List UInt8) (h : isTab l = false ∨ t.length ≠ lgN l.length ∨ isTerm t t.length = false) : impV l t = false := by
  unfold impV
  cases h1 : isTab l
  · rfl
  · cases h2 : isTerm t (lgN l.length)
    · rfl
    · exfalso
      obtain ⟨e, _⟩ := isTerm_len t _ h2
      rcases h with h | h | h
      · rw [h1] at h; cases h
      · omega
      · rw [e, h2] at h; cases h

theorem facts (F U : ByteArray) (hb : isTab F.data.toList = true) (hl : U.data.toList.length = lgN F.data.toList.length) (ht : isTerm U.data.toList U.size = true) : ∃ (A O : ByteArray) (B : Bool),
    Hid (∀ w0, Co w0 6 #[.string F, .string U] (.bool B)) ∧ Hid (∀ w0, Co w0 7 #[.string F, .string U] (.bool B)) ∧
    Hid (∀ w0, Co w0 8 #[.string F] (.bool true)) ∧ Hid (∀ w0, Co w0 9 #[.string F] (.int .i64 (U.size : Int))) ∧ Hid (∀ w0, Co w0 10 #[.string U, .int .i64 (U.size : Int)] (.bool true)) ∧
    Hid (∀ w0, Co w0 11 #[.string U] (.tuple #[.string A, .bool true])) ∧ Hid (∀ w0, Co w0 12 #[.string A, .string F] (.tuple #[.string O, .bool true])) ∧
    Hid (B = true ↔ O = F) ∧ Hid (B = (primL F.data.toList).any (insideB U.data.toList)) ∧
    Hid (∀ p ∈ primL F.data.toList, ∀ w0, Co w0 14 #[.string U, .string ⟨p.toArray⟩] (.bool (insideB U.data.toList p))) := by
  obtain ⟨n, g, h1, h5, hg, rfl⟩ := tab_T F hb
  rw [lgN_T h1 h5] at hl
  have hUs : U.size = n := hl
  obtain ⟨_, _, _, htb⟩ := isTerm_len _ _ ht
  have ht' : isTerm U.data.toList (n : Int) = true := by rw [← hUs]; exact ht
  have fU : U.size ≤ maxLen := by unfold maxLen; omega
  have hv : impV (T n g).data.toList U.data.toList = impB g (2 ^ n) U.data.toList := by
    unfold impV
    rw [hb, lgN_T h1 h5, ht', len_T]
    apply bool_of_iff
    simp only [Bool.true_and, impB_iff]
    exact ⟨fun h s hs hh => by rw [← tv_T hg s hs]; exact h s hs hh, fun h s hs hh => by rw [tv_T hg s hs]; exact h s hs hh⟩
  have hA : (⟨(termL U.data.toList).toArray⟩ : ByteArray) = T n (hasV U.data.toList) := by unfold termL T; rw [hl]
  have hP : primL (T n g).data.toList = primS g n (2 ^ n) := by
    unfold primL
    rw [hb, lgN_T h1 h5, len_T, if_pos rfl]
    unfold primS
    apply List.filter_congr
    intro t htm
    have hi : ∀ t, impB (tv (T n g).data.toList) (2 ^ n) t = impB g (2 ^ n) t := fun t => bool_of_iff (by
      simp only [impB_iff]
      exact ⟨fun h s hs hh => by rw [← tv_T hg s hs]; exact h s hs hh, fun h s hs hh => by rw [tv_T hg s hs]; exact h s hs hh⟩)
    unfold l2P
    simp only [hi]
  refine ⟨T n (hasV U.data.toList), T n (fun s => max (hasV U.data.toList s) (g s)), impB g (2 ^ n) U.data.toList, ?_, ?_, ?_, ?_, ?_, ?_, ?_, ?_, ?_, ?_⟩
  · exact fun w0 => (co w0 fun w => isImplicantI (T n g) U w (T_small n g h5) fU).as (by rw [hv])
  · exact fun w0 => (co w0 fun w => isImplicantS (T n g) U w (T_small n g h5) fU).as (by rw [hv])
  · exact fun w0 => tValidI w0 h1 h5 hg
  · exact fun w0 => (tInputsI w0 h1 h5 hg).as (by rw [hUs])
  · exact fun w0 => (co0 w0 fun w => termValidI U U.size w fU).as (by rw [ht])
  · exact fun w0 => (co w0 fun w => termTableI U w fU).as (sb_eq ((strI_yes ht rfl).trans hA) ht)
  · exact fun w0 => tOrI w0 h1 h5 (hasV_le _) hg
  · show _ ↔ _
    rw [impB_iff, T_eq _ _ _ (fun s => by have := hasV_le U.data.toList s; have := hg s; omega) hg]
    constructor
    · intro h s hs
      have := hasV_le U.data.toList s
      rcases b01 this with e | e
      · rw [e]; have := hg s; omega
      · have := h s hs ((hasV_one _ _).1 e); have := hg s; omega
    · intro h s hs hh
      have h2 := h s hs
      rw [(hasV_one _ _).2 hh] at h2
      omega
  · show _ = _
    rw [hP]
    apply bool_of_iff
    rw [imp_some g n (2 ^ n) U.data.toList hl htb, List.any_eq_true]
  · intro p hp w0
    rw [hP] at hp
    obtain ⟨hp1, hp2⟩ := prim_mem g n (2 ^ n) p hp
    have fp : (⟨p.toArray⟩ : ByteArray).size ≤ maxLen := by show p.toArray.size ≤ maxLen; unfold maxLen; simp; omega
    have hpt : isTerm p (n : Int) = true := by unfold isTerm; rw [hp2]; simp; omega
    refine (co w0 fun w => isInsideI U ⟨p.toArray⟩ w fU fp).as ?_
    have : isInsideV U.data.toList p = insideB U.data.toList p := by unfold isInsideV; rw [hl, ht', hpt]; rfl
    show Value.bool (isInsideV U.data.toList p) = _
    rw [this]

theorem str_ne {a b : ByteArray} (h : a ≠ b) : (a.toList == b.toList) = false := by
  rw [Bool.eq_false_iff]
  intro hh
  apply h
  have := eq_of_beq hh
  rw [ByteArray.toList_eq, ByteArray.toList_eq] at this
  apply ByteArray.ext
  exact Array.toList_inj.1 this

set_option maxRecDepth 100000 in
set_option maxHeartbeats 1000000 in
theorem walk_FnImplicant (A : Option Addr) (n c : Nat) (w : World) (h : ArgB w A n c) :
    Calls Try.prog 3 #[.slice A n c] w fun e w' => e = .returned (.bool true) ∧ Below w.heap.size w w' := by
  have hnm := Nat.le_trans h.1 h.2.1
  unfold maxLen at hnm
  by_cases hbig : 1048576 < n
  · go_enter Try.func3, Try.ntmps3
    go_wp2_with fail
    go_ret
    exact ⟨rfl, Below.refl _ _⟩
  go_enter Try.func3, Try.ntmps3
  go_wp2_with fail
  refine (drawIsImplicantS A n c w h).mono ?_
  rintro e w1 ⟨F, U, hF, hU, rfl, hB⟩
  have fF : F.size ≤ maxLen := by unfold maxLen; omega
  have fU : U.size ≤ maxLen := by unfold maxLen; omega
  clear h
  cases hb : isTab F.data.toList
  · have hi := imp_no F.data.toList U.data.toList (.inl hb)
    have c1 := Lib.hid ((co w fun w => isImplicantI F U w fF fU).as (by rw [hi]))
    have c2 := Lib.hid ((co w fun w => isImplicantS F U w fF fU).as (by rw [hi]))
    have c3 := Lib.hid ((co w fun w => tableValidI F w fF).as (by rw [hb]))
    clear hi hb
    go_wp2_with (first | (go_at_call 6; (with_reducible refine ((c1).out.at hB).mono ?_); rintro e w1 ⟨rfl, hB⟩) | (go_at_call 7; (with_reducible refine ((c2).out.at hB).mono ?_); rintro e w1 ⟨rfl, hB⟩) | (go_at_call 8; (with_reducible refine ((c3).out.at hB).mono ?_); rintro e w1 ⟨rfl, hB⟩) | fail)
    go_ret
    exact ⟨rfl, hB⟩
  by_cases hl : U.data.toList.length = lgN F.data.toList.length
  · cases ht : isTerm U.data.toList U.size
    · have hi := imp_no F.data.toList U.data.toList (.inr (.inr ht))
      have c1 := Lib.hid ((co w fun w => isImplicantI F U w fF fU).as (by rw [hi]))
      have c2 := Lib.hid ((co w fun w => isImplicantS F U w fF fU).as (by rw [hi]))
      have c3 := Lib.hid ((co w fun w => tableValidI F w fF).as (by rw [hb]))
      have c4 := Lib.hid ((co w fun w => inputsOfI F w fF).as (by rw [inpL_yes' _ hb, ← hl]))
      have c5 := Lib.hid ((co0 w fun w => termValidI U U.size w fU).as (by rw [ht]))
      rw [show U.data.toList.length = U.size from rfl] at c4
      clear hi hb hl ht
      go_wp2_with (first | (go_at_call 6; (with_reducible refine ((c1).out.at hB).mono ?_); rintro e w1 ⟨rfl, hB⟩) | (go_at_call 7; (with_reducible refine ((c2).out.at hB).mono ?_); rintro e w1 ⟨rfl, hB⟩) | (go_at_call 8; (with_reducible refine ((c3).out.at hB).mono ?_); rintro e w1 ⟨rfl, hB⟩) | (go_at_call 9; (with_reducible refine ((c4).out.at hB).mono ?_); rintro e w1 ⟨rfl, hB⟩) | (go_at_call 10; (with_reducible refine ((c5).out.at hB).mono ?_); rintro e w1 ⟨rfl, hB⟩) | fail)
      go_ret
      exact ⟨rfl, hB⟩
    · obtain ⟨A', O, B, c1, c2, c3, c4, c5, c6, c7, hO, hany, c8⟩ := facts F U hb hl ht
      have hpl := primL_len F.data.toList
      clear hb hl ht
      go_wp2_with (first | (go_at_call 6; (with_reducible refine (((c1).out _).at hB).mono ?_); rintro e w1 ⟨rfl, hB⟩) | (go_at_call 7; (with_reducible refine (((c2).out _).at hB).mono ?_); rintro e w1 ⟨rfl, hB⟩) | (go_at_call 8; (with_reducible refine (((c3).out _).at hB).mono ?_); rintro e w1 ⟨rfl, hB⟩) | (go_at_call 9; (with_reducible refine (((c4).out _).at hB).mono ?_); rintro e w1 ⟨rfl, hB⟩) | (go_at_call 10; (with_reducible refine (((c5).out _).at hB).mono ?_); rintro e w1 ⟨rfl, hB⟩) | (go_at_call 11; (with_reducible refine (((c6).out _).at hB).mono ?_); rintro e w1 ⟨rfl, hB⟩) | (go_at_call 12; (with_reducible refine (((c7).out _).at hB).mono ?_); rintro e w1 ⟨rfl, hB⟩) | fail)
      refine (primesOfI F _ fF).mono ?_
      rintro e w3 ⟨⟨v, rfl, hres⟩, hb3⟩
      obtain ⟨Ad, cap, rfl, hlc, hcm, htex⟩ := res_texts hres
      have hB3 := hB.trans (hb3.mono hB.size)
      have HT := Lib.hid htex
      obtain ⟨ps, hps⟩ : ∃ ps, ps = primL F.data.toList := ⟨_, rfl⟩
      rw [← hps] at hany c8 hpl hlc HT ⊢
      obtain ⟨L, hL⟩ : ∃ L, L = ps.length := ⟨_, rfl⟩
      rw [← hL] at hpl hlc ⊢
      have HL := Lib.hid hL
      unfold maxLen at hcm
      clear hps hL htex hres hb3 hB c1 c2 c3 c4 c5 c6 c7
      go_wp2_with fail
      go_loopw [11, 12] (fun s j wr => ∃ k : Nat, k ≤ L ∧ j = .int .i64 k ∧ s = .bool ((ps.take k).any (insideB U.data.toList)) ∧ Below w3.heap.size w3 wr) (fun _ j _ => L - (intOf j).toNat)
      case atStart => exact ⟨0, Nat.zero_le _, rfl, rfl, Below.refl _ _⟩
      case round =>
        obtain ⟨k, hk, rfl, rfl, hB⟩ := hrel
        by_cases hlt : k < L
        · obtain ⟨t, ht⟩ : ∃ t, ps[k]? = some t := ⟨_, List.getElem?_eq_getElem (by rw [← HL.out]; exact hlt)⟩
          obtain ⟨bb, rfl, hbb, hcell0⟩ := HT.out k t ht
          have hcell : wr.cell? ⟨bb, k, none⟩ = some (.string ⟨t.toArray⟩) := (hB.cell (p := ⟨bb, k, none⟩) (World.block_lt_of_cell? _ _ hcell0)).trans hcell0
          have cc := Lib.hid (c8.out t (List.mem_of_getElem? ht))
          have HS := Lib.hid (any_take_succ ps (insideB U.data.toList) k t ht)
          clear hcell0 ht
          cases hsm : (ps.take k).any (insideB U.data.toList)
          · rw [hsm] at HS
            clear hsm
            go_wp2_with (first | (go_at_call 14; (with_reducible refine (((cc).out _).at hB).mono ?_); rintro e w1 ⟨rfl, hB⟩) | fail)
            go_roundw
            case rel => exact ⟨k + 1, by omega, by go_num, by rw [HS.out, Bool.false_or], hB⟩
            case measure => simp [intOf]; omega
          · rw [hsm] at HS
            clear hsm
            go_wp2_with fail
            go_roundw
            case rel => exact ⟨k + 1, by omega, by go_num, by rw [HS.out, Bool.true_or], hB⟩
            case measure => simp [intOf]; omega
        · obtain rfl : k = L := by omega
          have e1 : (ps.take k).any (insideB U.data.toList) = B := by rw [HL.out, List.take_length]; exact hany.out.symm
          rw [e1]
          have hBB := hB3.trans (hB.mono hB3.size)
          clear e1
          cases B
          · have hne : (O.toList == F.toList) = false := by
              have : O ≠ F := fun e => by have := hO.out.2 e; cases this
              exact str_ne this
            go_wp2_with fail
            go_ret
            exact ⟨rfl, hBB⟩
          · obtain rfl : O = F := hO.out.1 rfl
            go_wp2_with fail
            go_ret
            exact ⟨rfl, hBB⟩
  · have hi := imp_no F.data.toList U.data.toList (.inr (.inl hl))
    have c1 := Lib.hid ((co w fun w => isImplicantI F U w fF fU).as (by rw [hi]))
    have c2 := Lib.hid ((co w fun w => isImplicantS F U w fF fU).as (by rw [hi]))
    have c3 := Lib.hid ((co w fun w => tableValidI F w fF).as (by rw [hb]))
    have c4 := Lib.hid ((co w fun w => inputsOfI F w fF).as (by rw [inpL_yes' _ hb]))
    have hl' : U.size ≠ lgN F.data.toList.length := hl
    generalize lgN F.data.toList.length = q at *
    have hne : ((U.size : Int) != (q : Int)) = true := by simp; omega
    have hne2 : (U.size != q) = true := by simpa using hl'
    clear hl'
    clear hi hb hl
    go_wp2_with (first | (go_at_call 6; (with_reducible refine ((c1).out.at hB).mono ?_); rintro e w1 ⟨rfl, hB⟩) | (go_at_call 7; (with_reducible refine ((c2).out.at hB).mono ?_); rintro e w1 ⟨rfl, hB⟩) | (go_at_call 8; (with_reducible refine ((c3).out.at hB).mono ?_); rintro e w1 ⟨rfl, hB⟩) | (go_at_call 9; (with_reducible refine ((c4).out.at hB).mono ?_); rintro e w1 ⟨rfl, hB⟩) | fail)
    go_ret
    exact ⟨rfl, hB⟩


theorem own : ownKnob Try.prog.godebug = none := by kernel_rfl
theorem laidOut : laidOutB Try.prog = true := by kernel_rfl

set_option maxRecDepth 100000 in
theorem lifted (os : Os) (started : os.Started) (H : Type) (enc : TypeId × Value → H) :
    ReturnsInHanded {} Try.checked os 3 .any (Rows.fnImplicantSpec.pre6 enc Try.prog Try.f3 Rows.fnImplicantRow.domain false) (Rows.fnImplicantSpec.post enc Try.prog Try.f3 false true false false) := by
  refine returnsInHanded_of_change (C := Try.checked) own started (by kernel_rfl) Try.func3
    (ChangeSpec.witness6 (enc := enc) (C := Try.checked) false ⟨#[], #[.slice none 0 0], []⟩ 8 (by kernel_rfl) (by kernel_rfl) (by kernel_rfl) (by kernel_rfl)) ?_
  intro W base args ds gs before hval0 hW hcnd _
  have hval : ∀ (j : Nat) t v, Try.f3.params[j]? = some t → args[j]? = some v → Value.okWide Try.prog W .any base t v := hval0
  have hW' := hW
  obtain ⟨p, q, hA0, hV, rfl, hfz, hnd⟩ := hW
  have hA : DataW.TrodAll enc Try.prog W 0 (fun _ => true) true Try.f3.params.toList args.toList ds p := hA0
  rw [Try.params3] at hA hval
  obtain ⟨v0, vs0, d0, ds0, p0, q0, hargs, rfl, rfl, h0, r0⟩ := trodAll_cons hA
  obtain ⟨rfl, rfl, rfl⟩ := trodAll_nil r0
  obtain rfl : args = #[v0] := by cases args; simp_all
  obtain ⟨rfl, rfl⟩ := trodVars_none hV
  obtain ⟨a0, len0, cap0, rfl⟩ := okWide_slice Try.underlying22 (hval 0 22 v0 rfl rfl)
  have k0 := h0
  have lt0 : ∀ x ∈ p0, x.block < W.heap.size := by obtain ⟨m, hm⟩ := k0; exact DataW.trod_lt m _ _ _ hm
  have w0 : ArgB W a0 len0 cap0 := by
    obtain ⟨fuel, hf⟩ := h0
    rcases open_ints Try.underlying22 Try.underlying5 (by kernel_rfl) hf with ⟨hcs, _⟩ | ⟨x, l, c, zs, hcs, _, hl, hm, hz, _, hcell, hwz⟩
    · simp [Value.cells] at hcs
      obtain ⟨rfl, rfl, rfl⟩ := hcs
      exact ⟨Nat.le_refl _, Nat.zero_le _, fun h => absurd rfl h⟩
    · simp [Value.cells] at hcs
      obtain ⟨rfl, rfl, rfl⟩ := hcs
      exact argB_of W _ _ _ zs hl hm (by simpa using hz) hcell hwz
  clear hA0 hval0
  refine (walk_FnImplicant a0 len0 cap0 W w0).mono fun e W' ⟨he, bel⟩ => ?_
  subst he
  exact ⟨_, rfl, _, _, _, [], _, [], hW', trodAll_mk1 (shut_bool Try.underlying4 _), (trodAll_cons_mk (Below.trod laidOut (by kernel_rfl) (of_decide_eq_true (by kernel_rfl)) k0 bel lt0) trodAll_mk0), rfl, bel.frame _, fun h => by cases h⟩

theorem over : Rows.fnImplicantRow.holds Try.pinned (OpenSpec.ofChange Rows.fnImplicantSpec) :=
  OpenClaim.holds_of_wide 3 Try.f3 rfl rfl rfl rfl rfl rfl rfl ⟨rfl, rfl, rfl, rfl, rfl⟩ rfl rfl rfl rfl rfl (by kernel_rfl) Try.func3 (by kernel_rfl)
    (of_decide_eq_true (by kernel_rfl)) (by unfold Func.isWrapper; first | (rw [if_pos (by decide +kernel)]; kernel_rfl) | (rw [if_neg (by decide +kernel)]; exact ⟨rfl, rfl⟩))
    (fun os started H enc _ => lifted os started H enc)
end fnImplicant

theorem fnImplicant_holds : Rows.FnImplicantSaid := fnImplicant.over
#print axioms fnImplicant_holds
end Go.Proofs.Ytknkhcaaadnaiaa
