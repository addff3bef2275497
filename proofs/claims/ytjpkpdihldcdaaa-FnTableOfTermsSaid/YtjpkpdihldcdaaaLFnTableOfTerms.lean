/-
  'laws.FnTableOfTerms' returns true for every input, and each argument reads behind the call as it read before. No conditions.
-/
import Derived.Test.YtjpkpdihldcdaaaRows
import Derived.Test.YtjpkpdihldcdaaaWx
import Derived.Test.YtjpkpdihldcdaaaPj
import Derived.Test.YtjpkpdihldcdaaaWd5
import Derived.Test.YtjpkpdihldcdaaaWk3
import Derived.Test.YtjpkpdihldcdaaaWk4
import Derived.Test.YtjpkpdihldcdaaaWk5
import Derived.Test.YtjpkpdihldcdaaaWb
import Derived.WalkKit
import Derived.ProofKit
import Derived.OpenShut
import Derived.ShutString
import Derived.ChangeOld
import Derived.Below
import Derived.SliceStrings
namespace Go.Proofs.Ytjpkpdihldcdaaa
set_option linter.unusedVariables false
set_option linter.unusedSimpArgs false
namespace fnTableOfTerms
open Go.ChangeShapes Go.WideShapes Go.ChangeAt Go.RowKit
open Go.ChangeMaps (open_string shut_string)
open Go.RowKit
set_option linter.unusedVariables false

theorem tot_T (ts : List (List UInt8)) (N : Int) (h : totOk ts N = true) : ∃ n : Nat, N = (n : Int) ∧ 1 ≤ n ∧ n ≤ 5 ∧ ∀ t ∈ ts, t.length = n ∧ t.all tb = true := by
  unfold totOk at h
  simp only [Bool.and_eq_true, decide_eq_true_eq, List.all_eq_true] at h
  obtain ⟨⟨h1, h5⟩, h3⟩ := h
  refine ⟨N.toNat, by omega, by omega, by omega, fun t ht => ?_⟩
  obtain ⟨e, _, _, hb⟩ := isTerm_len t N (h3 t ht)
  exact ⟨by omega, hb⟩

theorem facts (ts : List (List UInt8)) (n : Nat) (h1 : 1 ≤ n) (h5 : n ≤ 5) (hts : ∀ t ∈ ts, t.length = n ∧ t.all tb = true) :
    Hid (∀ w0, Co w0 34 #[.int .i64 (n : Int), .int .i64 0] (.tuple #[.string (T n (anyV [])), .bool true])) ∧
    Hid (∀ w0, Co w0 16 #[.string (T n (anyV ts))] (.int .i64 (n : Int))) ∧
    Hid (∀ (k : Nat) (t : List UInt8), ts[k]? = some t → ∃ A : ByteArray, (∀ w0, Co w0 41 #[.string ⟨t.toArray⟩] (.tuple #[.string A, .bool true])) ∧ (∀ w0, Co w0 26 #[.string (T n (anyV (ts.take k))), .string A] (.tuple #[.string (T n (anyV (ts.take (k + 1)))), .bool true])) ∧
      (∀ w0, Co w0 46 #[.string (T n (anyV ts)), .string ⟨t.toArray⟩] (.bool true))) := by
  refine ⟨fun w0 => tConstI w0 h1 h5 0 (by omega), fun w0 => tInputsI w0 h1 h5 (anyV_le ts), fun k t hk => ?_⟩
  have htm := List.mem_of_getElem? hk
  obtain ⟨hl, htb⟩ := hts t htm
  have fT : (⟨t.toArray⟩ : ByteArray).size ≤ maxLen := by show t.toArray.size ≤ maxLen; unfold maxLen; simp; omega
  have hsz : (⟨t.toArray⟩ : ByteArray).size = n := by show t.toArray.size = n; simp [hl]
  have hte : isTerm t (n : Int) = true := by unfold isTerm; rw [htb]; simp; omega
  have hA : (⟨(termL t).toArray⟩ : ByteArray) = T n (hasV t) := by unfold termL T; rw [hl]
  refine ⟨T n (hasV t), fun w0 => ?_, fun w0 => ?_, fun w0 => ?_⟩
  · have hte' : isTerm (⟨t.toArray⟩ : ByteArray).data.toList ((⟨t.toArray⟩ : ByteArray).size : Int) = true := by rw [hsz]; exact hte
    exact (co w0 fun w => termTableI ⟨t.toArray⟩ w fT).as (sb_eq ((strI_yes hte' rfl).trans hA) hte')
  · refine (tOrI w0 h1 h5 (anyV_le _) (hasV_le t)).as (sb_eq (T_congr _ _ _ fun s _ => ?_) rfl)
    rw [List.take_add_one, hk]
    exact (anyV_snoc _ _ _).symm
  · refine (co w0 fun w => isImplicantI (T n (anyV ts)) ⟨t.toArray⟩ w (T_small n _ h5) fT).as ?_
    have : impV (T n (anyV ts)).data.toList t = true := by
      unfold impV
      rw [isTab_T h1 h5 (anyV_le ts), lgN_T h1 h5, hte, len_T]
      simp only [Bool.true_and, impB_iff]
      intro s hs hh
      rw [tv_T (anyV_le ts) s hs, (anyV_one_iff ts s).2 ⟨t, htm, hh⟩]
      omega
    show Value.bool (impV (T n (anyV ts)).data.toList t) = _
    rw [this]

set_option maxRecDepth 100000 in
set_option maxHeartbeats 4000000 in
theorem walk_FnTableOfTerms (A : Option Addr) (n c : Nat) (w : World) (h : ArgB w A n c) :
    Calls Try.prog 10 #[.slice A n c] w fun e w' => e = .returned (.bool true) ∧ Below w.heap.size w w' := by
  have hnm := Nat.le_trans h.1 h.2.1
  unfold maxLen at hnm
  by_cases hbig : 1048576 < n
  · go_enter Try.func10, Try.ntmps10
    go_wp2_with fail
    go_ret
    exact ⟨rfl, Below.refl _ _⟩
  go_enter Try.func10, Try.ntmps10
  go_wp2_with fail
  refine (drawTableOfTermsS A n c w h).mono ?_
  rintro e wz ⟨ts, N, v, htl, hsm, hN1, hN2, rfl, hres, hB⟩
  clear h
  have hsz : ∀ t ∈ ts, t.length ≤ maxLen := fun t ht => by have := hsm t ht; unfold maxLen; omega
  have TI := Lib.hid (fun (w : World) hr => tableOfTermsI ts v N w (by omega) hsz hr)
  have TS := Lib.hid (fun (w : World) hr => tableOfTermsS ts v N w (by omega) hsz hr)
  have HROW := Lib.hid hres.row
  have HRES := Lib.hid hres
  clear hsz hsm hres
  have hB3 := hB
  clear hB
  have hB : Below wz.heap.size wz wz := Below.refl _ _
  cases hok : totOk ts N
  · rw [hok] at TI TS
    clear hok
    go_wp2_with fail
    refine (TI.out _ (HROW.out.keep hB)).mono ?_
    rintro e w4 ⟨rfl, hb4⟩
    have hB := hB.trans (hb4.mono hB.size)
    go_wp2_with fail
    refine (TS.out _ (HROW.out.keep hB)).mono ?_
    rintro e w5 ⟨rfl, hb5⟩
    have hB := hB.trans (hb5.mono hB.size)
    generalize strI false (totL ts N.toNat) = X at *
    go_wp2_with fail
    go_ret
    exact ⟨rfl, hB3.trans (hB.mono hB3.size)⟩
  · obtain ⟨n0, rfl, h1, h5, hts⟩ := tot_T ts N hok
    obtain ⟨c1, c2, c3⟩ := facts ts n0 h1 h5 hts
    have eF : strI true (totL ts ((n0 : Nat) : Int).toNat) = T n0 (anyV ts) := by rw [Int.toNat_natCast]; rfl
    rw [hok, eF] at TI TS
    clear hok eF hts hN1 hN2
    have HL2 := Lib.hid (show T n0 (anyV (ts.take ts.length)) = T n0 (anyV ts) by rw [List.take_length])
    obtain ⟨Ad, cap, hv, hlc, hcm, htex⟩ := res_texts HRES.out
    subst hv
    have HT := Lib.hid htex
    clear htex HRES
    go_wp2_with fail
    refine (TI.out _ (HROW.out.keep hB)).mono ?_
    rintro e w4 ⟨rfl, hb4⟩
    have hB := hB.trans (hb4.mono hB.size)
    go_wp2_with fail
    refine (TS.out _ (HROW.out.keep hB)).mono ?_
    rintro e w5 ⟨rfl, hb5⟩
    have hB := hB.trans (hb5.mono hB.size)
    obtain ⟨L, hL⟩ : ∃ L, L = ts.length := ⟨_, rfl⟩
    rw [← hL] at htl hlc HL2 ⊢
    have HL := Lib.hid hL
    unfold maxLen at hcm
    clear hL hb4 hb5 TI TS
    generalize hFF : T n0 (anyV ts) = F at *
    clear hFF
    go_wp2_with (first | (go_at_call 34; (with_reducible refine (((c1).out _).at hB).mono ?_); rintro e w1 ⟨rfl, hB⟩) | fail)
    go_loopw [9, 11] (fun a j wr => ∃ (k : Nat) (X : ByteArray), k ≤ L ∧ j = .int .i64 k ∧ a = .string X ∧ Hid (X = T n0 (anyV (ts.take k))) ∧ Below wz.heap.size wz wr) (fun _ j _ => L - (intOf j).toNat)
    case atStart => exact ⟨0, _, Nat.zero_le _, rfl, rfl, rfl, hB⟩
    case round =>
      clear hB
      obtain ⟨k, X, hk, rfl, rfl, hX, hB⟩ := hrel
      by_cases hlt : k < L
      · obtain ⟨t, ht⟩ : ∃ t, ts[k]? = some t := ⟨_, List.getElem?_eq_getElem (by rw [← HL.out]; exact hlt)⟩
        obtain ⟨bb, rfl, hbb, hc0⟩ := HT.out k t ht
        obtain ⟨A1, d1, d2, d3⟩ := c3.out k t ht
        rw [← hX.out] at d2
        have D1 := Lib.hid d1
        have D2 := Lib.hid d2
        have D3 := Lib.hid d3
        have CELL : Hid (∀ wr, Below wz.heap.size wz wr → wr.cell? ⟨bb, k, none⟩ = some (.string ⟨t.toArray⟩)) := fun wr hB => (hB.cell (p := ⟨bb, k, none⟩) (World.block_lt_of_cell? _ _ hc0)).trans hc0
        have cK := CELL.out wr hB
        clear hc0 ht d1 d2 d3
        go_wp2_with (first | (go_at_call 41; (with_reducible refine (((D1).out _).at hB).mono ?_); rintro e w1 ⟨rfl, hB⟩) | (go_at_call 26; (with_reducible refine ((D2.out _).at hB).mono ?_); rintro e w1 ⟨rfl, hB⟩; have cK2 := CELL.out _ hB) | (go_at_call 46; (with_reducible refine (((D3).out _).at hB).mono ?_); rintro e w1 ⟨rfl, hB⟩) | fail)
        go_roundw
        case rel => exact ⟨k + 1, _, by omega, by go_num, rfl, rfl, hB⟩
        case measure => simp [intOf]; omega
      · obtain rfl : k = L := by omega
        obtain rfl : X = F := hX.out.trans HL2.out
        clear hX
        go_wp2_with (first | (go_at_call 16; (with_reducible refine (((c2).out _).at hB).mono ?_); rintro e w1 ⟨rfl, hB⟩) | fail)
        go_ret
        exact ⟨rfl, hB3.trans (hB.mono hB3.size)⟩


theorem own : ownKnob Try.prog.godebug = none := by kernel_rfl
theorem laidOut : laidOutB Try.prog = true := by kernel_rfl

set_option maxRecDepth 100000 in
theorem lifted (os : Os) (started : os.Started) (H : Type) (enc : TypeId × Value → H) :
    ReturnsInHanded {} Try.checked os 10 .any (Rows.fnTableOfTermsSpec.pre6 enc Try.prog Try.f10 Rows.fnTableOfTermsRow.domain false) (Rows.fnTableOfTermsSpec.post enc Try.prog Try.f10 false true false false) := by
  refine returnsInHanded_of_change (C := Try.checked) own started (by kernel_rfl) Try.func10
    (ChangeSpec.witness6 (enc := enc) (C := Try.checked) false ⟨#[], #[.slice none 0 0], []⟩ 8 (by kernel_rfl) (by kernel_rfl) (by kernel_rfl) (by kernel_rfl)) ?_
  intro W base args ds gs before hval0 hW hcnd _
  have hval : ∀ (j : Nat) t v, Try.f10.params[j]? = some t → args[j]? = some v → Value.okWide Try.prog W .any base t v := hval0
  have hW' := hW
  obtain ⟨p, q, hA0, hV, rfl, hfz, hnd⟩ := hW
  have hA : DataW.TrodAll enc Try.prog W 0 (fun _ => true) true Try.f10.params.toList args.toList ds p := hA0
  rw [Try.params10] at hA hval
  obtain ⟨v0, vs0, d0, ds0, p0, q0, hargs, rfl, rfl, h0, r0⟩ := trodAll_cons hA
  obtain ⟨rfl, rfl, rfl⟩ := trodAll_nil r0
  obtain rfl : args = #[v0] := by cases args; simp_all
  obtain ⟨rfl, rfl⟩ := trodVars_none hV
  obtain ⟨a0, len0, cap0, rfl⟩ := okWide_slice Try.underlying22 (hval 0 22 v0 rfl rfl)
  have k0 := h0
  have lt0 : ∀ x ∈ p0, x.block < W.heap.size := by obtain ⟨m, hm⟩ := k0; exact DataW.trod_lt m _ _ _ hm
  have w0 : ArgB W a0 len0 cap0 := by
    obtain ⟨fuel, hf⟩ := h0
    rcases open_ints Try.underlying22 Try.underlying5 (by kernel_rfl) hf with ⟨hcs, _⟩ | ⟨x, l, c, zs, hcs, _, hl, hm, hz, _, hcell, hwz⟩
    · simp [Value.cells] at hcs
      obtain ⟨rfl, rfl, rfl⟩ := hcs
      exact ⟨Nat.le_refl _, Nat.zero_le _, fun h => absurd rfl h⟩
    · simp [Value.cells] at hcs
      obtain ⟨rfl, rfl, rfl⟩ := hcs
      exact argB_of W _ _ _ zs hl hm (by simpa using hz) hcell hwz
  clear hA0 hval0
  refine (walk_FnTableOfTerms a0 len0 cap0 W w0).mono fun e W' ⟨he, bel⟩ => ?_
  subst he
  exact ⟨_, rfl, _, _, _, [], _, [], hW', trodAll_mk1 (shut_bool Try.underlying4 _), (trodAll_cons_mk (Below.trod laidOut (by kernel_rfl) (of_decide_eq_true (by kernel_rfl)) k0 bel lt0) trodAll_mk0), rfl, bel.frame _, fun h => by cases h⟩

theorem over : Rows.fnTableOfTermsRow.holds Try.pinned (OpenSpec.ofChange Rows.fnTableOfTermsSpec) :=
  OpenClaim.holds_of_wide 10 Try.f10 rfl rfl rfl rfl rfl rfl rfl ⟨rfl, rfl, rfl, rfl, rfl⟩ rfl rfl rfl rfl rfl (by kernel_rfl) Try.func10 (by kernel_rfl)
    (of_decide_eq_true (by kernel_rfl)) (by unfold Func.isWrapper; first | (rw [if_pos (by decide +kernel)]; kernel_rfl) | (rw [if_neg (by decide +kernel)]; exact ⟨rfl, rfl⟩))
    (fun os started H enc _ => lifted os started H enc)
end fnTableOfTerms

theorem fnTableOfTerms_holds : Rows.FnTableOfTermsSaid := fnTableOfTerms.over
#print axioms fnTableOfTerms_holds
end Go.Proofs.Ytjpkpdihldcdaaa
