/- Walks: the reference draws lists of terms. -/
import Derived.Test.YtjpkpdihldcdaaaWd4
namespace Go.Proofs.Ytjpkpdihldcdaaa
set_option linter.unusedVariables false
set_option linter.unusedSimpArgs false
open Go.RowKit

/-- A list of texts and a number. -/
def DTot (w : World) (e : Ending) (w' : World) : Prop :=
  ∃ (ts : List (List UInt8)) (N : Int) (v : Value), ts.length ≤ 4 ∧ (∀ t ∈ ts, t.length ≤ 100) ∧ -1 ≤ N ∧ N ≤ 6 ∧ e = .returned (.tuple #[v, .int .i64 N]) ∧ Res w' w.heap.size 9 v (textsV ts) ∧ Below w.heap.size w w'
def TexRow (w : World) (base : Nat) (v : Value) (m : Nat) : Prop := ∃ ts : List (List UInt8), ts.length = m ∧ (∀ t ∈ ts, t.length ≤ 100) ∧ w.ownsRow base 9 1 v m (textsV ts)
theorem texts_snoc (ts : List (List UInt8)) (y : ByteArray) : textsV ts ++ [.string y] = textsV (ts ++ [y.data.toList]) := by
  unfold textsV; simp
theorem texts_small (ts : List (List UInt8)) (y : ByteArray) (h : ∀ t ∈ ts, t.length ≤ 100) (hy : y.size ≤ 100) : ∀ t ∈ ts ++ [y.data.toList], t.length ≤ 100 := by
  intro t ht
  rcases List.mem_append.1 ht with h' | h'
  · exact h t h'
  · simp at h'; subst h'; exact hy

set_option maxHeartbeats 2000000 in
theorem drawTableOfTermsS (A : Option Addr) (n c : Nat) (w : World) (h : ArgB w A n c) :
    Calls Try.prog 57 #[.slice A n c] w (DTot w) := by
  go_enter Try.func57, Try.ntmps57
  go_wp2_with fail
  refine (l14OpenS A n c w h).mono ?_
  rintro e wa ⟨rfl, ⟨n', c', hR⟩, hba⟩
  go_wp2_with fail
  refine (numN _ A n' c' _ _ [3, 2, 1, 4, 0, 6] _ hR (by omega) (by decide) (by decide)).mono ?_
  rintro e wb ⟨N, hN, rfl, hgb, hRb⟩
  have hBb := below_draw hba hgb (Nat.le_refl _)
  have hgl : w.heap.size < wb.heap.size := hRb.lt
  have hN' : N = 3 ∨ N = 2 ∨ N = 1 ∨ N = 4 ∨ N = 0 ∨ N = 6 := by simpa using hN
  clear hN hR hba hgb
  obtain ⟨N, rfl⟩ : ∃ N0 : Nat, N = (N0 : Int) := ⟨N.toNat, by omega⟩
  have hN6 : N ≤ 6 := by omega
  clear hN'
  go_wp2_with (first | ((with_reducible refine wpList_empty 47 9 (.string ⟨#[]⟩) 16 Try.underlying47 infoS ?_); intro w1 hown1 hg1 hz1; (try simp only [Act.put, List.setIfInBounds_toArray, List.set_cons_succ, List.set_cons_zero, World.size_alloc, Nat.add_assoc, Nat.reduceAdd])) | fail)
  have R1 := hRb.grown hg1 (fun k e => by cases e)
  have B1 : Below w.heap.size w w1 := hBb.grown hg1 (Nat.le_of_lt hgl) (fun k e => by cases e)
  refine (pickS _ A n' c' _ 4 _ R1 (by omega) (by omega)).mono ?_
  rintro e wc ⟨r, rfl, hr, _, hgc, hRc⟩
  have hr4 : r < 4 := by have := hr (by omega); omega
  have hownc := hown1.kept hgc (own_ne hown1 hgl)
  have Bc := below_draw B1 hgc (Nat.le_refl _)
  have hszc : wb.heap.size ≤ wc.heap.size := Nat.le_trans hg1.size hgc.size
  clear hr hg1 hz1 hown1 hgc R1 B1 hRb hBb
  go_wp2_with fail
  go_loopw [6, 7] (fun v j wr => ∃ k : Nat, k ≤ r ∧ j = .int .i64 k ∧ Hid (TexRow wr wb.heap.size v (r - k)) ∧ wb.heap.size ≤ wr.heap.size ∧ Below w.heap.size w wr ∧ Rd w.heap.size A n' c' (100 + 20 * (r - k)) wr) (fun _ j _ => (intOf j).toNat)
  case atStart => exact ⟨r, Nat.le_refl _, rfl, ⟨[], by rw [Nat.sub_self]; rfl, (fun t ht => by cases ht), by rw [Nat.sub_self]; exact hownc⟩, hszc, Bc, hRc.mono (by omega)⟩
  case round =>
    clear hownc hszc Bc hRc
    obtain ⟨k, hk, rfl, hT, hsz, hBw, hRw⟩ := hrel
    by_cases hlt : 0 < k
    · obtain ⟨ts, hts, hsm, hown⟩ := hT.out
      have HTS := Lib.hid hts
      have HSM := Lib.hid hsm
      clear hT hts hsm
      by_cases hc1 : N < 1
      · go_wp2_with fail
        refine (l2TermS _ A n' c' _ 1 _ hRw (by omega) (by omega)).mono ?_
        rintro e wd ⟨t, ht, rfl, hgd, hRd⟩
        have ht8 : t.size ≤ 8 := by omega
        have hownd := hown.kept hgd (own_ne hown hgl)
        have Bd := below_draw hBw hgd (Nat.le_refl _)
        have hszd := Nat.le_trans hsz hgd.size
        clear ht hgd
        go_wp2_with fail
        refine (l2BadS t _ A n' c' _ _ hRd (by omega) (by omega)).mono ?_
        rintro e we ⟨y, hy, rfl, hge, hRe⟩
        have howne := hownd.kept hge (own_ne hownd hgl)
        have Be := below_draw Bd hge (Nat.le_refl _)
        have hsze := Nat.le_trans hszd hge.size
        clear hge hownd Bd hszd hRd
        go_wp2_with (first
          | ((with_reducible refine wpList_push 47 9 _ _ (wb.heap.size) (r - k) 16 (u6) (.string y) (.string ⟨#[]⟩) (_) Try.underlying47 infoS rfl rfl rfl ?_ ?_ ?_ (howne) (hsze) (by omega) (by decide) ?_); rfl; rfl; rfl; intro v2 w2 hown2 hg2 hat2 hbel2; (try simp only [Act.put, List.setIfInBounds_toArray, List.set_cons_succ, List.set_cons_zero, World.size_alloc, Nat.add_assoc, Nat.reduceAdd]))
          | fail)
        go_roundw
        case rel =>
          refine ⟨k - 1, by omega, ?_, ⟨ts ++ [y.data.toList], by simp [HTS.out]; omega, texts_small ts y HSM.out (by omega), ?_⟩, Nat.le_trans hsze hbel2.size, Be.trans (hbel2.mono (Nat.le_of_lt hgl)), (hRe.belowB hbel2 hgl).mono (by omega)⟩
          · exact congrArg _ (by omega)
          · rw [show r - (k - 1) = r - k + 1 by omega, ← texts_snoc]; exact hown2
        case measure => simp [intOf]; omega
      by_cases hc2 : 5 < N
      · go_wp2_with fail
        refine (l2TermS _ A n' c' _ 5 _ hRw (by omega) (by omega)).mono ?_
        rintro e wd ⟨t, ht, rfl, hgd, hRd⟩
        have ht8 : t.size ≤ 8 := by omega
        have hownd := hown.kept hgd (own_ne hown hgl)
        have Bd := below_draw hBw hgd (Nat.le_refl _)
        have hszd := Nat.le_trans hsz hgd.size
        clear ht hgd
        go_wp2_with fail
        refine (l2BadS t _ A n' c' _ _ hRd (by omega) (by omega)).mono ?_
        rintro e we ⟨y, hy, rfl, hge, hRe⟩
        have howne := hownd.kept hge (own_ne hownd hgl)
        have Be := below_draw Bd hge (Nat.le_refl _)
        have hsze := Nat.le_trans hszd hge.size
        clear hge hownd Bd hszd hRd
        go_wp2_with (first
          | ((with_reducible refine wpList_push 47 9 _ _ (wb.heap.size) (r - k) 16 (u6) (.string y) (.string ⟨#[]⟩) (_) Try.underlying47 infoS rfl rfl rfl ?_ ?_ ?_ (howne) (hsze) (by omega) (by decide) ?_); rfl; rfl; rfl; intro v2 w2 hown2 hg2 hat2 hbel2; (try simp only [Act.put, List.setIfInBounds_toArray, List.set_cons_succ, List.set_cons_zero, World.size_alloc, Nat.add_assoc, Nat.reduceAdd]))
          | fail)
        go_roundw
        case rel =>
          refine ⟨k - 1, by omega, ?_, ⟨ts ++ [y.data.toList], by simp [HTS.out]; omega, texts_small ts y HSM.out (by omega), ?_⟩, Nat.le_trans hsze hbel2.size, Be.trans (hbel2.mono (Nat.le_of_lt hgl)), (hRe.belowB hbel2 hgl).mono (by omega)⟩
          · exact congrArg _ (by omega)
          · rw [show r - (k - 1) = r - k + 1 by omega, ← texts_snoc]; exact hown2
        case measure => simp [intOf]; omega
      · go_wp2_with fail
        refine (l2TermS _ A n' c' _ N _ hRw (by omega) (by omega)).mono ?_
        rintro e wd ⟨t, ht, rfl, hgd, hRd⟩
        have ht8 : t.size ≤ 8 := by omega
        have hownd := hown.kept hgd (own_ne hown hgl)
        have Bd := below_draw hBw hgd (Nat.le_refl _)
        have hszd := Nat.le_trans hsz hgd.size
        clear ht hgd
        go_wp2_with fail
        refine (l2BadS t _ A n' c' _ _ hRd (by omega) (by omega)).mono ?_
        rintro e we ⟨y, hy, rfl, hge, hRe⟩
        have howne := hownd.kept hge (own_ne hownd hgl)
        have Be := below_draw Bd hge (Nat.le_refl _)
        have hsze := Nat.le_trans hszd hge.size
        clear hge hownd Bd hszd hRd
        go_wp2_with (first
          | ((with_reducible refine wpList_push 47 9 _ _ (wb.heap.size) (r - k) 16 (u6) (.string y) (.string ⟨#[]⟩) (_) Try.underlying47 infoS rfl rfl rfl ?_ ?_ ?_ (howne) (hsze) (by omega) (by decide) ?_); rfl; rfl; rfl; intro v2 w2 hown2 hg2 hat2 hbel2; (try simp only [Act.put, List.setIfInBounds_toArray, List.set_cons_succ, List.set_cons_zero, World.size_alloc, Nat.add_assoc, Nat.reduceAdd]))
          | fail)
        go_roundw
        case rel =>
          refine ⟨k - 1, by omega, ?_, ⟨ts ++ [y.data.toList], by simp [HTS.out]; omega, texts_small ts y HSM.out (by omega), ?_⟩, Nat.le_trans hsze hbel2.size, Be.trans (hbel2.mono (Nat.le_of_lt hgl)), (hRe.belowB hbel2 hgl).mono (by omega)⟩
          · exact congrArg _ (by omega)
          · rw [show r - (k - 1) = r - k + 1 by omega, ← texts_snoc]; exact hown2
        case measure => simp [intOf]; omega
    · obtain rfl : k = 0 := by omega
      obtain ⟨ts, hts, hsm, hown⟩ := hT.out
      have HRES := Lib.hid (Res.mono (Res.of_own hown) (Nat.le_of_lt hgl))
      have HTS := Lib.hid hts
      have HSM := Lib.hid hsm
      clear hT hts hsm hown
      go_wp2_with fail
      go_ret2
      exact ⟨ts, N, _, by rw [HTS.out]; omega, HSM.out, by omega, by omega, rfl, HRES.out, hBw⟩

end Go.Proofs.Ytjpkpdihldcdaaa
