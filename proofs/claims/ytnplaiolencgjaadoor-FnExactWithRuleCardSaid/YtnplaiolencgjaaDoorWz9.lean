/- Walks: the fixed points, the reference. -/
import Derived.Test.YtnplaiolencgjaaDoorWz8
import Derived.Test.YtnplaiolencgjaaDoorWq
namespace Go.Proofs.YtnplaiolencgjaaDoor
set_option linter.unusedVariables false
set_option linter.unusedSimpArgs false
open Go.RowKit

def fixK (ts : List (List UInt8)) (k : Nat) : List Nat := (List.range k).filter fun s => nextN ts s == s
theorem fixK_succ (ts : List (List UInt8)) (k : Nat) : fixK ts (k + 1) = fixK ts k ++ if nextN ts k == k then [k] else [] := by
  unfold fixK; rw [List.range_succ, List.filter_append]; congr 1
  by_cases h : nextN ts k == k <;> simp [h]
theorem fixK_len (ts : List (List UInt8)) (k : Nat) : (fixK ts k).length ≤ k := by
  unfold fixK; have := List.length_filter_le (fun s => nextN ts s == s) (List.range k); simpa using this
theorem fixL_no {ts : List (List UInt8)} (h : wOk ts = false) : fixL ts = [] := by unfold fixL; rw [h]; rfl
theorem fixL_yes {ts : List (List UInt8)} (h : wOk ts = true) : fixL ts = fixK ts (2 ^ ts.length) := by unfold fixL fixK; rw [h, if_pos rfl]
theorem fixL_len (ts : List (List UInt8)) : (fixL ts).length ≤ 65536 := by
  cases h : wOk ts
  · rw [fixL_no h]; simp
  · rw [fixL_yes h]
    have := fixK_len ts (2 ^ ts.length)
    have := pow_le32 _ (wOk_five h)
    omega

/-- A list of cells, in a block that is not v's own. -/
def Far (w : World) (v : Value) (A : Option Addr) (n c : Nat) (xs : List Value) : Prop :=
  xs.length = n ∧ n ≤ c ∧ c ≤ maxLen ∧ (xs ≠ [] → ∃ g, A = some ⟨g, 0, none⟩ ∧ g < w.heap.size ∧ some g ≠ v.ownBlock ∧ ∀ (k : Nat) u, xs[k]? = some u → w.cell? ⟨g, k, none⟩ = some u)
theorem Far.row {w : World} {v : Value} {A : Option Addr} {n c : Nat} {xs : List Value} (h : Far w v A n c xs) : Row w (.slice A n c) xs := by
  obtain ⟨rfl, h2, h3, h4⟩ := h
  refine ⟨A, c, rfl, h2, h3, fun hne => ?_⟩
  obtain ⟨g, rfl, hg, _, hc⟩ := h4 hne
  exact ⟨g, 0, rfl, hg, fun k u hu => by rw [Nat.zero_add]; exact hc k u hu⟩
theorem Far.grown {w w' : World} {v v' : Value} {A : Option Addr} {n c : Nat} {xs : List Value} (h : Far w v A n c xs) (hg : w.grownBy w' v.ownBlock) (hv : v'.ownBlock = v.ownBlock ∨ v'.ownBlock = some (w.heap.size + 1)) : Far w' v' A n c xs := by
  obtain ⟨h1, h2, h3, h4⟩ := h
  refine ⟨h1, h2, h3, fun hne => ?_⟩
  obtain ⟨g, hA, hl, hn, hc⟩ := h4 hne
  refine ⟨g, hA, Nat.lt_of_lt_of_le hl hg.size, ?_, fun k u hu => hg.cell (hc k u hu) hn⟩
  rcases hv with e | e
  · rw [e]; exact hn
  · rw [e]; intro e2; cases e2; omega
theorem Far.of_tex {w : World} {base : Nat} {v : Value} {A : Option Addr} {c : Nat} {ts : List (List UInt8)} (ht : Tex w base A ts) (h1 : ts.length ≤ c) (h2 : c ≤ 9223372036854775807) (hv : ∀ g, v.ownBlock = some g → g < base) : Far w v A ts.length c (textsV ts) := by
  refine ⟨textsV_length ts, h1, by unfold maxLen; omega, fun hne => ?_⟩
  obtain ⟨t, ht0⟩ : ∃ t, ts[0]? = some t := by
    rcases ts with _ | ⟨t, r⟩
    · exact absurd rfl hne
    · exact ⟨t, rfl⟩
  obtain ⟨g, hA, hg, hc⟩ := ht 0 t ht0
  refine ⟨g, hA, World.block_lt_of_cell? _ _ hc, fun e => by have := hv g e.symm; omega, fun k u hu => ?_⟩
  obtain ⟨t2, h3, rfl⟩ : ∃ t2, ts[k]? = some t2 ∧ Value.string ⟨t2.toArray⟩ = u := by
    unfold textsV at hu
    rw [List.getElem?_map, Option.map_eq_some_iff] at hu
    exact hu
  obtain ⟨g2, hA2, _, hc2⟩ := ht k t2 h3
  rw [hA] at hA2
  cases hA2
  exact hc2

theorem fixedPointsS (s : ByteArray) (w : World) (hs : s.size ≤ 1048576) :
    Calls Tryd.prog 25 #[.string s] w fun e w' => (∃ v, e = .returned v ∧ Res w' w.heap.size 3 v (natsV (fixL (netL s)))) ∧ Below w.heap.size w w' := by
  have O := Lib.hid (fun w => l3OpenC s w hs)
  generalize netL s = ts at *
  cases hok : wOk ts
  · rw [wTexts_no hok, hok] at O
    rw [fixL_no hok]
    clear hok
    go_enter Tryd.func25, Tryd.ntmps25
    go_wp2_with (first | ((with_reducible refine wpList_empty 32 3 (.int .i64 0) 8 Tryd.underlying32 infoI ?_); intro w1 hown1 hg1 hz1; (try simp only [Act.put, List.setIfInBounds_toArray, List.set_cons_succ, List.set_cons_zero, World.size_alloc, Nat.add_assoc, Nat.reduceAdd])) | fail)
    refine (O.out _).mono ?_
    rintro e w2 ⟨A, c, rfl, hO⟩
    have hB := hO.2.2.2.2
    have hown2 := own_below hown1 hB
    have hB2 : Below w.heap.size w w2 := ((Below.refl _ _).grown hg1 (Nat.le_refl _) (fun k hk => by cases hk)).trans (hB.mono (by omega))
    go_wp2_with fail
    go_loopw [3, 6] (fun v j wr => j = .int .i64 0 ∧ wr.ownsRow w.heap.size 3 1 v 0 [] ∧ Below w.heap.size w wr) (fun _ _ _ => 0)
    case atStart => exact ⟨rfl, hown2, hB2⟩
    case round =>
      obtain ⟨rfl, hown, hB3⟩ := hrel
      go_wp2_with fail
      go_ret
      exact ⟨⟨_, rfl, Res.of_own hown⟩, hB3⟩
  · rw [wTexts_yes hok, hok] at O
    have h5 := wOk_five hok
    have hp32 := pow_le32 _ h5
    have hpp := Nat.two_pow_pos ts.length
    have AL := Lib.hid (fun A c w => l3AllS A ts.length c w h5)
    have ST := Lib.hid (fun v k w (hk : k < 2 ^ ts.length) => l3StepS ts v k (2 ^ ts.length - 1) w hok hk (by omega))
    have SN := Lib.hid (fun k (hk : k < 2 ^ ts.length) => show stepK ts k (2 ^ ts.length - 1) ts.length = nextN ts k from step_all hok k ts.length h5 hk)
    have HF := Lib.hid (fixL_yes hok)
    have FX9 := Lib.hid (fixK_succ ts)
    have FL := Lib.hid (fixK_len ts)
    obtain ⟨M, hM⟩ : ∃ M, 2 ^ ts.length = M + 1 := ⟨2 ^ ts.length - 1, by omega⟩
    rw [hM] at AL ST HF hp32 SN
    simp only [Nat.add_sub_cancel] at AL ST SN
    clear hok hM hpp
    go_enter Tryd.func25, Tryd.ntmps25
    go_wp2_with (first | ((with_reducible refine wpList_empty 32 3 (.int .i64 0) 8 Tryd.underlying32 infoI ?_); intro w1 hown1 hg1 hz1; (try simp only [Act.put, List.setIfInBounds_toArray, List.set_cons_succ, List.set_cons_zero, World.size_alloc, Nat.add_assoc, Nat.reduceAdd])) | fail)
    refine (O.out _).mono ?_
    rintro e w2 ⟨A, c, rfl, hO⟩
    have hB := hO.2.2.2.2
    have HR := Lib.hid (Far.of_tex (v := .slice (some ⟨w.heap.size, 0, none⟩) 0 0) hO.2.2.2.1.out hO.1 hO.2.1 (fun g e => by cases e; show w.heap.size < _; omega))
    have hown2 := own_below hown1 hB
    have hB2 : Below w.heap.size w w2 := ((Below.refl _ _).grown hg1 (Nat.le_refl _) (fun k hk => by cases hk)).trans (hB.mono (by omega))
    clear hown1 hg1 hz1 hO hB
    go_wp2_with fail
    go_loopw [3, 6] (fun v j wr => ∃ k : Nat, k ≤ M + 1 ∧ j = .int .i64 k ∧ wr.ownsRow w.heap.size 3 1 v (fixK ts k).length (natsV (fixK ts k)) ∧ Below w.heap.size w wr ∧ Hid (Far wr v A ts.length c (textsV ts))) (fun _ j _ => M + 1 - (intOf j).toNat)
    case atStart => exact ⟨0, Nat.zero_le _, rfl, hown2, hB2, HR⟩
    case round =>
      clear hown2 hB2 HR
      obtain ⟨k, hk, rfl, hown, hB, HR⟩ := hrel
      by_cases hlt : k ≤ M
      · have hml := FL.out k
        have hlen : (fixK ts k).length ≤ 65536 := by omega
        have MS := Lib.hid (FX9.out k)
        have S1 := Lib.hid (fun v w => ST.out v k w (by omega))
        rw [SN.out k (by omega)] at S1
        cases hfx : nextN ts k == k
        · rw [hfx] at MS
          have hne : ((nextN ts k : Int) == (k : Int)) = false := by simp at hfx ⊢; omega
          generalize nextN ts k = N at *
          clear hfx
          go_wp2_with (first | (go_at_call 43; (with_reducible refine (AL.out _ _ _).mono ?_); rintro e w3 ⟨rfl, rfl⟩) | (go_at_call 40; (with_reducible refine (S1.out _ _ HR.out.row).mono ?_); rintro e w3 ⟨rfl, rfl⟩) | fail)
          go_roundw
          case rel => exact ⟨k + 1, by omega, by go_num, by rw [MS.out]; simpa using hown, hB, HR⟩
          case measure => simp [intOf]; omega
        · rw [hfx] at MS
          have hNk : nextN ts k = k := by simpa using hfx
          rw [hNk] at S1
          clear hfx hNk
          go_wp2_with (first | ((with_reducible refine wpList_push 32 3 _ _ (w.heap.size) ((fixK ts k).length) 8 (u3) (.int .i64 (k : Int)) (.int .i64 0) (_) Tryd.underlying32 infoI rfl rfl rfl ?_ ?_ ?_ (hown) (hB.size) (hlen) (by decide) ?_); rfl; rfl; rfl; intro v2 w2 hown2 hg2 hat2 hbel2; (try simp only [Act.put, List.setIfInBounds_toArray, List.set_cons_succ, List.set_cons_zero, World.size_alloc, Nat.add_assoc, Nat.reduceAdd])) | (go_at_call 43; (with_reducible refine (AL.out _ _ _).mono ?_); rintro e w3 ⟨rfl, rfl⟩) | (go_at_call 40; (with_reducible refine (S1.out _ _ HR.out.row).mono ?_); rintro e w3 ⟨rfl, rfl⟩) | fail)
          go_roundw
          case rel => exact ⟨k + 1, by omega, by go_num, by rw [MS.out, if_pos trivial, List.length_append]; simpa [natsV] using hown2, below_grown hB hbel2 (Nat.le_refl _), HR.out.grown hg2 hat2⟩
          case measure => simp [intOf]; omega
      · obtain rfl : k = M + 1 := by omega
        go_wp2_with (first | (go_at_call 43; (with_reducible refine (AL.out _ _ _).mono ?_); rintro e w3 ⟨rfl, rfl⟩) | fail)
        go_ret
        exact ⟨⟨_, rfl, by rw [HF.out]; exact Res.of_own hown⟩, hB⟩

end Go.Proofs.YtnplaiolencgjaaDoor
