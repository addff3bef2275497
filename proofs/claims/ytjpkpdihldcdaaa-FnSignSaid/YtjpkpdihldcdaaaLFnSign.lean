/-
  'laws.FnSign' returns true for every input, and each argument reads behind the call as it read before. No conditions.
-/
import Derived.Test.YtjpkpdihldcdaaaRows
import Derived.Test.YtjpkpdihldcdaaaWx
import Derived.Test.YtjpkpdihldcdaaaWb
import Derived.Test.YtjpkpdihldcdaaaWm2
import Derived.WalkKit
import Derived.ProofKit
import Derived.OpenShut
import Derived.ShutString
import Derived.ChangeOld
import Derived.Below
import Derived.SliceStrings
namespace Go.Proofs.Ytjpkpdihldcdaaa
set_option linter.unusedVariables false
set_option linter.unusedSimpArgs false
namespace fnSign
open Go.ChangeShapes Go.WideShapes Go.ChangeAt Go.RowKit
open Go.ChangeMaps (open_string shut_string)
open Go.RowKit
set_option linter.unusedVariables false

/-- A list of numbers that a function returned. -/
def TexN (w : World) (A : Option Addr) (zs : List Nat) : Prop :=
  ∀ (k z : Nat), zs[k]? = some z → ∃ g, A = some ⟨g, 0, none⟩ ∧ w.cell? ⟨g, k, none⟩ = some (.int .i64 (z : Int))
theorem res_nats {w : World} {base : Nat} {e : TypeId} {v : Value} {zs : List Nat} (h : Res w base e v (natsV zs)) : ∃ A c, v = .slice A zs.length c ∧ zs.length ≤ c ∧ c ≤ maxLen ∧ TexN w A zs := by
  obtain ⟨A, c, hv, h1, h2, hc⟩ := h
  rw [show (natsV zs).length = zs.length by simp [natsV]] at hv h1
  refine ⟨A, c, hv, h1, h2, fun k z hz => ?_⟩
  have hu : (natsV zs)[k]? = some (.int .i64 (z : Int)) := by simp [natsV, hz]
  obtain ⟨g, cur, hA, hbg, hg, hk⟩ := hc (fun e => by rw [e] at hu; cases hu)
  exact ⟨g, hA, by rw [cell_of_row _ _ _ _ _ _ hg]; exact hk k _ hu⟩

theorem no_facts (F : ByteArray) (i : Int) (hF : F.size ≤ 100) (w0 : World) (hb : inOk F.data.toList i = false) :
    Hid (Co w0 51 #[.string F, .int .i64 i] (.string ⟨#[]⟩)) ∧ Hid (Co w0 53 #[.string F, .int .i64 i] (.string ⟨#[]⟩)) := by
  have f1 : F.size ≤ maxLen := by unfold maxLen; omega
  exact ⟨(co w0 fun w => signOfI F i w f1).as (str_eq (strI_no hb)), (co0 w0 fun w => signOfS F i w f1).as (str_eq (strI_no hb))⟩

theorem in_T (F : ByteArray) (i : Int) (hb : inOk F.data.toList i = true) : ∃ (n k : Nat) (g : Nat → Nat), 1 ≤ n ∧ n ≤ 5 ∧ k < n ∧ i = (k : Int) ∧ (∀ s, g s ≤ 1) ∧ F = T n g := by
  have h1 := hb
  unfold inOk at h1
  simp only [Bool.and_eq_true, decide_eq_true_eq] at h1
  obtain ⟨n, g, hn1, hn5, hg, rfl⟩ := tab_T F h1.1
  rw [lgN_T hn1 hn5] at h1
  exact ⟨n, i.toNat, g, hn1, hn5, by omega, by omega, hg, rfl⟩

theorem facts (n k : Nat) (g : Nat → Nat) (h1 : 1 ≤ n) (h5 : n ≤ 5) (hk : k < n) (hg : ∀ s, g s ≤ 1) : ∃ (G D X O S S' S2 : ByteArray) (zs : List Nat),
    Hid (∀ w0, Co w0 51 #[.string (T n g), .int .i64 (k : Int)] (.string S)) ∧ Hid (∀ w0, Co w0 53 #[.string (T n g), .int .i64 (k : Int)] (.string S)) ∧
    Hid (∀ w0, Co w0 21 #[.string (T n g)] (.tuple #[.string G, .bool true])) ∧ Hid (∀ w0, Co w0 28 #[.string (T n g)] (.tuple #[.string D, .bool true])) ∧
    Hid (∀ w0, Co w0 16 #[.string (T n g)] (.int .i64 (n : Int))) ∧ Hid (∀ w0, Co w0 49 #[.int .i64 (n : Int), .int .i64 (k : Int)] (.tuple #[.string X, .bool true])) ∧
    Hid (∀ w0, Co w0 26 #[.string (T n g), .string X] (.tuple #[.string O, .bool true])) ∧ Hid (∀ w0, Co w0 51 #[.string O, .int .i64 (k : Int)] (.string S2)) ∧
    Hid (∀ w0, Co w0 51 #[.string G, .int .i64 (k : Int)] (.string S')) ∧ Hid (∀ w0, Co w0 51 #[.string D, .int .i64 (k : Int)] (.string S)) ∧
    Hid (zs = matL (T n g).data.toList) ∧ zs.length ≤ 5 ∧ (S2 = ⟨#[43]⟩ ∨ S2 = ⟨#[48]⟩) ∧
    ((S = ⟨#[48]⟩ ∧ S' = ⟨#[48]⟩ ∧ Hid (zs.any (fun z => z == k) = false)) ∨ (S = ⟨#[43]⟩ ∧ S' = ⟨#[45]⟩ ∧ Hid (zs.any (fun z => z == k) = true)) ∨ (S = ⟨#[45]⟩ ∧ S' = ⟨#[43]⟩ ∧ Hid (zs.any (fun z => z == k) = true)) ∨ (S = ⟨#[42]⟩ ∧ S' = ⟨#[42]⟩ ∧ Hid (zs.any (fun z => z == k) = true))) := by
  have hn : ∀ s, 1 - g s ≤ 1 := fun s => Nat.sub_le _ _
  have hd : ∀ s, 1 - g (2 ^ n - 1 - s) ≤ 1 := fun s => Nat.sub_le _ _
  have hx : ∀ s, bitN s k ≤ 1 := fun s => bitN_le s k
  have ho : ∀ s, max (g s) (bitN s k) ≤ 1 := fun s => by have := hg s; have := hx s; omega
  have hmem : (matL (T n g).data.toList).any (fun z => z == k) = (upB g (2 ^ n) k || dnB g (2 ^ n) k) := by
    rw [matL_T h1 h5 hg]
    apply bool_of_iff
    rw [← mat_mem (2 ^ n) k hk, List.any_eq_true]
    constructor
    · rintro ⟨z, hz, e⟩; rw [← eq_of_beq e]; exact hz
    · intro hz; exact ⟨k, hz, by simp⟩
  have hlen : (matL (T n g).data.toList).length ≤ 5 := by rw [matL_T h1 h5 hg]; have := matK_len g (2 ^ n) n; omega
  refine ⟨T n fun s => 1 - g s, T n fun s => 1 - g (2 ^ n - 1 - s), T n fun s => bitN s k, T n fun s => max (g s) (bitN s k), sgT n g k, sgT n (fun s => 1 - g s) k, sgT n (fun s => max (g s) (bitN s k)) k, matL (T n g).data.toList,
    fun w0 => tSignI w0 h1 h5 hg k hk, fun w0 => tSignS w0 h1 h5 hg k hk, fun w0 => tNotI w0 h1 h5 hg, fun w0 => tDualI w0 h1 h5 hg, fun w0 => tInputsI w0 h1 h5 hg, fun w0 => tInputI w0 h1 h5 k hk, fun w0 => tOrI w0 h1 h5 hg hx, fun w0 => tSignI w0 h1 h5 ho k hk, fun w0 => tSignI w0 h1 h5 hn k hk, fun w0 => (tSignI w0 h1 h5 hd k hk).as (str_eq (by unfold sgT; rw [up_dual h5 hg k hk, dn_dual h5 hg k hk])), rfl, hlen, ?_, ?_⟩
  · unfold sgT
    rw [dn_or h5 hg k hk]
    cases upB (fun s => max (g s) (bitN s k)) (2 ^ n) k
    · exact .inr rfl
    · exact .inl rfl
  · unfold sgT
    rw [up_not hg, dn_not hg, hmem]
    cases upB g (2 ^ n) k <;> cases dnB g (2 ^ n) k
    · exact .inl ⟨rfl, rfl, rfl⟩
    · exact .inr (.inr (.inl ⟨rfl, rfl, rfl⟩))
    · exact .inr (.inl ⟨rfl, rfl, rfl⟩)
    · exact .inr (.inr (.inr ⟨rfl, rfl, rfl⟩))

set_option maxRecDepth 100000 in
set_option maxHeartbeats 4000000 in
theorem walk_FnSign (A : Option Addr) (n c : Nat) (w : World) (h : ArgB w A n c) :
    Calls Try.prog 9 #[.slice A n c] w fun e w' => e = .returned (.bool true) ∧ Below w.heap.size w w' := by
  have hnm := Nat.le_trans h.1 h.2.1
  unfold maxLen at hnm
  by_cases hbig : 1048576 < n
  · go_enter Try.func9, Try.ntmps9
    go_wp2_with fail
    go_ret
    exact ⟨rfl, Below.refl _ _⟩
  go_enter Try.func9, Try.ntmps9
  go_wp2_with fail
  refine (drawSignOfS A n c w h).mono ?_
  rintro e w1 ⟨F, i, hF, hi1, hi2, rfl, hB⟩
  clear h
  cases hb : inOk F.data.toList i
  · obtain ⟨c1, c2⟩ := no_facts F i hF w hb
    clear hb
    go_wp2_with (first | (go_at_call 51; (with_reducible refine ((c1).out.at hB).mono ?_); rintro e w1 ⟨rfl, hB⟩) | (go_at_call 53; (with_reducible refine ((c2).out.at hB).mono ?_); rintro e w1 ⟨rfl, hB⟩) | fail)
    go_ret
    exact ⟨rfl, hB⟩
  · obtain ⟨N, k, g, h1, h5, hk, rfl, hg, rfl⟩ := in_T F i hb
    obtain ⟨G, D, X, O, S, S', S2, zs, c1, c2, c3, c4, c5, c6, c7, c8, c9, c10, hzs, hzl, hS2, hS⟩ := facts N k g h1 h5 hk hg
    have fF := T_small N g h5
    clear hb hg hi1 hi2
    generalize T N g = F at *
    have MI := Lib.hid (fun w => mattersInI F w fF)
    have MS := Lib.hid (fun w => mattersInS F w fF)
    rw [← hzs.out] at MI MS
    clear hzs
    rcases hS with ⟨rfl, rfl, hany⟩ | ⟨rfl, rfl, hany⟩ | ⟨rfl, rfl, hany⟩ | ⟨rfl, rfl, hany⟩
    all_goals
      go_wp2_with (first | (go_at_call 51; (with_reducible refine (((c1).out _).at hB).mono ?_); rintro e w1 ⟨rfl, hB⟩) | (go_at_call 53; (with_reducible refine (((c2).out _).at hB).mono ?_); rintro e w1 ⟨rfl, hB⟩) | (go_at_call 21; (with_reducible refine (((c3).out _).at hB).mono ?_); rintro e w1 ⟨rfl, hB⟩) | (go_at_call 28; (with_reducible refine (((c4).out _).at hB).mono ?_); rintro e w1 ⟨rfl, hB⟩) | fail)
      refine (MI.out _).mono ?_
      rintro e w3 ⟨⟨v, rfl, hres⟩, hb3⟩
      have hrow := Lib.hid hres.row
      obtain ⟨Ad, cap, rfl, hlc, hcm, htex⟩ := res_nats hres
      have hB3 := hB.trans (hb3.mono hB.size)
      have HT := Lib.hid htex
      obtain ⟨L, hL⟩ : ∃ L, L = zs.length := ⟨_, rfl⟩
      rw [← hL] at hzl hlc hrow ⊢
      have HL := Lib.hid hL
      unfold maxLen at hcm
      clear hL htex hres hb3 hB
      go_wp2_with fail
      go_loopw [12, 13] (fun s j wr => ∃ q : Nat, q ≤ L ∧ j = .int .i64 q ∧ s = .bool ((zs.take q).any (fun z => z == k)) ∧ Below w3.heap.size w3 wr) (fun _ j _ => L - (intOf j).toNat)
      case atStart => exact ⟨0, Nat.zero_le _, rfl, rfl, Below.refl _ _⟩
      case round =>
        obtain ⟨q, hq, rfl, rfl, hB⟩ := hrel
        by_cases hlt : q < L
        · obtain ⟨z, hz⟩ : ∃ z, zs[q]? = some z := ⟨_, List.getElem?_eq_getElem (by rw [← HL.out]; exact hlt)⟩
          obtain ⟨bb, rfl, hcell0⟩ := HT.out q z hz
          have hcell : wr.cell? ⟨bb, q, none⟩ = some (.int .i64 (z : Int)) := (hB.cell (p := ⟨bb, q, none⟩) (World.block_lt_of_cell? _ _ hcell0)).trans hcell0
          have HS := Lib.hid (any_take_succ zs (fun z => z == k) q z hz)
          clear hcell0 hz
          cases hsm : (zs.take q).any (fun z => z == k)
          · rw [hsm] at HS
            clear hsm
            by_cases hzk : z = k
            · have z1 : ((z : Int) == (k : Int)) = true := by simp [hzk]
              have z2 : (z == k) = true := by simp [hzk]
              have HZ := Lib.hid z2
              clear hzk
              go_wp2_with fail
              clear z1 z2
              go_roundw
              case rel => exact ⟨q + 1, by omega, by go_num, by rw [HS.out, HZ.out]; rfl, hB⟩
              case measure => simp [intOf]; omega
            · have z1 : ((z : Int) == (k : Int)) = false := by simp; omega
              have z2 : (z == k) = false := by simpa using hzk
              have HZ := Lib.hid z2
              clear hzk
              go_wp2_with fail
              clear z1 z2
              go_roundw
              case rel => exact ⟨q + 1, by omega, by go_num, by rw [HS.out, HZ.out]; rfl, hB⟩
              case measure => simp [intOf]; omega
          · rw [hsm] at HS
            clear hsm
            go_wp2_with fail
            go_roundw
            case rel => exact ⟨q + 1, by omega, by go_num, by rw [HS.out, Bool.true_or], hB⟩
            case measure => simp [intOf]; omega
        · obtain rfl : q = L := by omega
          rw [show (zs.take q).any (fun z => z == k) = zs.any (fun z => z == k) by rw [HL.out, List.take_length], hany.out]
          rcases hS2 with rfl | rfl
          all_goals
            go_wp2_with (first | (go_at_call 16; (with_reducible refine (((c5).out _).at hB).mono ?_); rintro e w1 ⟨rfl, hB⟩) | (go_at_call 49; (with_reducible refine (((c6).out _).at hB).mono ?_); rintro e w1 ⟨rfl, hB⟩) | (go_at_call 26; (with_reducible refine (((c7).out _).at hB).mono ?_); rintro e w1 ⟨rfl, hB⟩) | (go_at_call 51; (with_reducible refine (((c8).out _).at hB).mono ?_); rintro e w1 ⟨rfl, hB⟩) | (go_at_call 51; (with_reducible refine (((c9).out _).at hB).mono ?_); rintro e w1 ⟨rfl, hB⟩) | (go_at_call 51; (with_reducible refine (((c10).out _).at hB).mono ?_); rintro e w1 ⟨rfl, hB⟩) | fail)
            refine (MS.out _).mono ?_
            rintro e w9 ⟨⟨v9, rfl, hres9⟩, hb9⟩
            have r1 := (hrow.out.keep hB).keep hb9
            go_wp2_with fail
            refine (bnSameL zs _ _ _ (by rw [← HL.out]; omega) r1 hres9.row).mono ?_
            rintro e w10 ⟨rfl, hb10⟩
            have hBB := (hB3.trans (hB.mono hB3.size)).trans (hb9.mono (Nat.le_trans hB3.size hB.size))
            have hBC := hBB.trans (hb10.mono hBB.size)
            go_wp2_with fail
            go_ret
            exact ⟨rfl, hBC⟩


theorem own : ownKnob Try.prog.godebug = none := by kernel_rfl
theorem laidOut : laidOutB Try.prog = true := by kernel_rfl

set_option maxRecDepth 100000 in
theorem lifted (os : Os) (started : os.Started) (H : Type) (enc : TypeId × Value → H) :
    ReturnsInHanded {} Try.checked os 9 .any (Rows.fnSignSpec.pre6 enc Try.prog Try.f9 Rows.fnSignRow.domain false) (Rows.fnSignSpec.post enc Try.prog Try.f9 false true false false) := by
  refine returnsInHanded_of_change (C := Try.checked) own started (by kernel_rfl) Try.func9
    (ChangeSpec.witness6 (enc := enc) (C := Try.checked) false ⟨#[], #[.slice none 0 0], []⟩ 8 (by kernel_rfl) (by kernel_rfl) (by kernel_rfl) (by kernel_rfl)) ?_
  intro W base args ds gs before hval0 hW hcnd _
  have hval : ∀ (j : Nat) t v, Try.f9.params[j]? = some t → args[j]? = some v → Value.okWide Try.prog W .any base t v := hval0
  have hW' := hW
  obtain ⟨p, q, hA0, hV, rfl, hfz, hnd⟩ := hW
  have hA : DataW.TrodAll enc Try.prog W 0 (fun _ => true) true Try.f9.params.toList args.toList ds p := hA0
  rw [Try.params9] at hA hval
  obtain ⟨v0, vs0, d0, ds0, p0, q0, hargs, rfl, rfl, h0, r0⟩ := trodAll_cons hA
  obtain ⟨rfl, rfl, rfl⟩ := trodAll_nil r0
  obtain rfl : args = #[v0] := by cases args; simp_all
  obtain ⟨rfl, rfl⟩ := trodVars_none hV
  obtain ⟨a0, len0, cap0, rfl⟩ := okWide_slice Try.underlying22 (hval 0 22 v0 rfl rfl)
  have k0 := h0
  have lt0 : ∀ x ∈ p0, x.block < W.heap.size := by obtain ⟨m, hm⟩ := k0; exact DataW.trod_lt m _ _ _ hm
  have w0 : ArgB W a0 len0 cap0 := by
    obtain ⟨fuel, hf⟩ := h0
    rcases open_ints Try.underlying22 Try.underlying5 (by kernel_rfl) hf with ⟨hcs, _⟩ | ⟨x, l, c, zs, hcs, _, hl, hm, hz, _, hcell, hwz⟩
    · simp [Value.cells] at hcs
      obtain ⟨rfl, rfl, rfl⟩ := hcs
      exact ⟨Nat.le_refl _, Nat.zero_le _, fun h => absurd rfl h⟩
    · simp [Value.cells] at hcs
      obtain ⟨rfl, rfl, rfl⟩ := hcs
      exact argB_of W _ _ _ zs hl hm (by simpa using hz) hcell hwz
  clear hA0 hval0
  refine (walk_FnSign a0 len0 cap0 W w0).mono fun e W' ⟨he, bel⟩ => ?_
  subst he
  exact ⟨_, rfl, _, _, _, [], _, [], hW', trodAll_mk1 (shut_bool Try.underlying4 _), (trodAll_cons_mk (Below.trod laidOut (by kernel_rfl) (of_decide_eq_true (by kernel_rfl)) k0 bel lt0) trodAll_mk0), rfl, bel.frame _, fun h => by cases h⟩

theorem over : Rows.fnSignRow.holds Try.pinned (OpenSpec.ofChange Rows.fnSignSpec) :=
  OpenClaim.holds_of_wide 9 Try.f9 rfl rfl rfl rfl rfl rfl rfl ⟨rfl, rfl, rfl, rfl, rfl⟩ rfl rfl rfl rfl rfl (by kernel_rfl) Try.func9 (by kernel_rfl)
    (of_decide_eq_true (by kernel_rfl)) (by unfold Func.isWrapper; first | (rw [if_pos (by decide +kernel)]; kernel_rfl) | (rw [if_neg (by decide +kernel)]; exact ⟨rfl, rfl⟩))
    (fun os started H enc _ => lifted os started H enc)
end fnSign

theorem fnSign_holds : Rows.FnSignSaid := fnSign.over
#print axioms fnSign_holds
end Go.Proofs.Ytjpkpdihldcdaaa
