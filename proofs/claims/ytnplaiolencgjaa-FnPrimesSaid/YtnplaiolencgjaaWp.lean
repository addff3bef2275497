/- Walks: all terms. -/
import Derived.Test.YtnplaiolencgjaaWk2
import Derived.Deep.RegionHeld3
import Derived.Deep.AppendLies
namespace Go.Proofs.Ytnplaiolencgjaa
set_option linter.unusedVariables false
set_option linter.unusedSimpArgs false
open Go.RowKit

theorem infoS : (Try.prog.info? 9).map (fun i => (i.zero, i.size, i.bytes)) = some (some (.string ⟨#[]⟩), 1, 16) := by kernel_rfl

theorem allTermsI (n : Nat) (w : World) (h5 : n ≤ 5) :
    Calls Try.prog 37 #[.int .i64 (n : Int)] w fun e w' => (∃ v, e = .returned v ∧ w'.ownsRow w.heap.size 9 1 v (allT n).length (textsV (allT n))) ∧ Below w.heap.size w w' := by
  go_enter Try.func37, Try.ntmps37
  go_wp2_with (first | ((with_reducible refine wpList_one 24 9 _ (.string ⟨#[]⟩) (.string ⟨#[]⟩) 16 Try.underlying24 infoS rfl rfl ?_ ?_); rfl; intro w1 hown1 hbel1 hz1; (try simp only [Act.put, List.setIfInBounds_toArray, List.set_cons_succ, List.set_cons_zero, World.size_alloc, Nat.add_assoc, Nat.reduceAdd])) | fail)
  go_loopw [3, 9] (fun v j wr => ∃ k : Nat, k ≤ n ∧ j = .int .i64 k ∧ wr.ownsRow w.heap.size 9 1 v (allT k).length (textsV (allT k)) ∧ Below w.heap.size w wr) (fun _ j _ => n - (intOf j).toNat)
  case atStart => exact ⟨0, Nat.zero_le _, rfl, hown1, hbel1⟩
  case round =>
    clear hown1 hbel1 hz1
    obtain ⟨k, hk, rfl, hown, hB⟩ := hrel
    by_cases hlt : k < n
    · have hlen := allT_le k (by omega)
      obtain ⟨A, c, hv, g1, g2, hc⟩ := Row.of_own hown
      rw [textsV_length] at hv
      have hp : 0 < (allT k).length := by rw [allT_length]; exact Nat.pow_pos (by omega)
      obtain ⟨b, off, rfl, hbl, hcell⟩ := hc (by intro h; have := textsV_length (allT k); rw [h] at this; simp at this; omega)
      have HC := Lib.hid (show ∀ j t, (allT k)[j]? = some t → wr.cell? ⟨b, off + j, none⟩ = some (.string ⟨t.toArray⟩) from fun j t h => hcell j _ (textsV_get _ _ _ h))
      have HT := Lib.hid (allT_terms k)
      obtain ⟨m, hm⟩ : ∃ m, m = (allT k).length := ⟨_, rfl⟩
      rw [← hm] at hv hlen hp
      have HM := Lib.hid hm
      have HL := Lib.hid (show allT (k + 1) = (allT k).flatMap ext3 from rfl)
      clear hc hcell hm hown
      rw [hv]
      obtain ⟨wo, rfl⟩ : ∃ wo : World, wo = wr := ⟨_, rfl⟩
      clear hv g1 g2
      go_wp2_with fail
      go_loopw [4, 13] (fun v j wr => ∃ i : Nat, i ≤ m ∧ j = .int .i64 i ∧ wr.ownsRow wo.heap.size 9 1 v (3 * i) (textsV (((allT k).take i).flatMap ext3)) ∧ Below wo.heap.size wo wr) (fun _ j _ => m - (intOf j).toNat)
      case atStart => exact ⟨0, Nat.zero_le _, rfl, World.ownsRow_nil _ _ _ _, Below.refl _ _⟩
      case round =>
        obtain ⟨i, hi, rfl, hown, hBi⟩ := hrel
        by_cases hlti : i < m
        · obtain ⟨t, ht⟩ : ∃ t, (allT k)[i]? = some t := ⟨_, List.getElem?_eq_getElem (by rw [HM.out] at hlti; exact hlti)⟩
          have hcell : wr.cell? ⟨b, off + i, none⟩ = some (.string ⟨t.toArray⟩) := (hBi.cell (p := ⟨b, off + i, none⟩) hbl).trans (HC.out i t ht)
          obtain ⟨S, hS⟩ : ∃ S : ByteArray, S = ⟨t.toArray⟩ := ⟨_, rfl⟩
          rw [← hS] at hcell
          have htl : S.size ≤ 5 := by rw [hS]; show t.length ≤ 5; rw [(HT.out t (List.mem_of_getElem? ht)).1]; omega
          have HSS := Lib.hid hS
          clear hS
          have HS := Lib.hid (flat_take_succ (allT k) i t ht)
          have e1 := Lib.hid (ba_cat t [42])
          have e2 := Lib.hid (ba_cat t [48])
          have e3 := Lib.hid (ba_cat t [49])
          clear ht
          go_wp2_with (first | ((with_reducible refine wpList_push3 24 9 _ _ _ _ (wo.heap.size) (3 * i) 16 (u4) (.string (S ++ ⟨#[42]⟩)) (.string (S ++ ⟨#[48]⟩)) (.string (S ++ ⟨#[49]⟩)) (.string ⟨#[]⟩) (_) Try.underlying24 infoS rfl rfl rfl rfl rfl rfl rfl ?_ ?_ ?_ ?_ ?_ (hown) (hBi.size) (by omega) (by decide) ?_); rfl; rfl; rfl; rfl; rfl; intro v2 w2 hown2 hg2 hat2 hbel2; (try simp only [Act.put, List.setIfInBounds_toArray, List.set_cons_succ, List.set_cons_zero, World.size_alloc, Nat.add_assoc, Nat.reduceAdd])) | fail)
          go_roundw
          case rel =>
            refine ⟨i + 1, by omega, by go_num, ?_, below_grown hBi hbel2 (Nat.le_refl _)⟩
            rw [HS.out, show 3 * (i + 1) = 3 * i + 3 by omega]
            have : textsV (((allT k).take i).flatMap ext3 ++ ext3 t) = textsV (((allT k).take i).flatMap ext3) ++ [.string (S ++ ⟨#[42]⟩), .string (S ++ ⟨#[48]⟩), .string (S ++ ⟨#[49]⟩)] := by
              rw [HSS.out, show (⟨#[42]⟩ : ByteArray) = ⟨[(42 : UInt8)].toArray⟩ from rfl, show (⟨#[48]⟩ : ByteArray) = ⟨[(48 : UInt8)].toArray⟩ from rfl, show (⟨#[49]⟩ : ByteArray) = ⟨[(49 : UInt8)].toArray⟩ from rfl, e1.out, e2.out, e3.out]
              simp [textsV, ext3]
            rw [this]
            exact hown2
          case measure => simp [intOf]; omega
        · obtain rfl : i = m := by omega
          go_wp2_with fail
          go_roundw
          case rel =>
            refine ⟨k + 1, by omega, by go_num, ?_, hB.trans (hBi.mono hB.size)⟩
            have hl : (allT (k + 1)).length = 3 * i := by rw [HL.out, HM.out, ← flat_len (allT k) _ (Nat.le_refl _), List.take_length]
            rw [hl, HL.out]
            have := own_mono hown hB.size
            rw [show (allT k).take i = allT k by rw [HM.out, List.take_length]] at this
            exact this
          case measure => simp [intOf]; omega
    · obtain rfl : k = n := by omega
      go_wp2_with fail
      go_ret
      exact ⟨⟨_, rfl, hown⟩, hB⟩

theorem l2AllS (n : Nat) (w : World) (h5 : n ≤ 5) :
    Calls Try.prog 40 #[.int .i64 (n : Int)] w fun e w' => (∃ v, e = .returned v ∧ w'.ownsRow w.heap.size 9 1 v (allT n).length (textsV (allT n))) ∧ Below w.heap.size w w' := by
  go_enter Try.func40, Try.ntmps40
  go_wp2_with (first | ((with_reducible refine wpList_one 24 9 _ (.string ⟨#[]⟩) (.string ⟨#[]⟩) 16 Try.underlying24 infoS rfl rfl ?_ ?_); rfl; intro w1 hown1 hbel1 hz1; (try simp only [Act.put, List.setIfInBounds_toArray, List.set_cons_succ, List.set_cons_zero, World.size_alloc, Nat.add_assoc, Nat.reduceAdd])) | fail)
  go_loopw [3, 4] (fun v j wr => ∃ k : Nat, k ≤ n ∧ j = .int .i64 k ∧ wr.ownsRow w.heap.size 9 1 v (allT k).length (textsV (allT k)) ∧ Below w.heap.size w wr) (fun _ j _ => n - (intOf j).toNat)
  case atStart => exact ⟨0, Nat.zero_le _, rfl, hown1, hbel1⟩
  case round =>
    clear hown1 hbel1 hz1
    obtain ⟨k, hk, rfl, hown, hB⟩ := hrel
    by_cases hlt : k < n
    · have hlen := allT_le k (by omega)
      obtain ⟨A, c, hv, g1, g2, hc⟩ := Row.of_own hown
      rw [textsV_length] at hv
      have hp : 0 < (allT k).length := by rw [allT_length]; exact Nat.pow_pos (by omega)
      obtain ⟨b, off, rfl, hbl, hcell⟩ := hc (by intro h; have := textsV_length (allT k); rw [h] at this; simp at this; omega)
      have HC := Lib.hid (show ∀ j t, (allT k)[j]? = some t → wr.cell? ⟨b, off + j, none⟩ = some (.string ⟨t.toArray⟩) from fun j t h => hcell j _ (textsV_get _ _ _ h))
      have HT := Lib.hid (allT_terms k)
      obtain ⟨m, hm⟩ : ∃ m, m = (allT k).length := ⟨_, rfl⟩
      rw [← hm] at hv hlen hp
      have HM := Lib.hid hm
      have HL := Lib.hid (show allT (k + 1) = (allT k).flatMap ext3 from rfl)
      clear hc hcell hm hown
      rw [hv]
      obtain ⟨wo, rfl⟩ : ∃ wo : World, wo = wr := ⟨_, rfl⟩
      clear hv g1 g2
      go_wp2_with (first | ((with_reducible refine wpList_empty 24 9 (.string ⟨#[]⟩) 16 Try.underlying24 infoS ?_); intro w1 hown1 hg1 hz1; (try simp only [Act.put, List.setIfInBounds_toArray, List.set_cons_succ, List.set_cons_zero, World.size_alloc, Nat.add_assoc, Nat.reduceAdd])) | fail)
      go_loopw [5, 6] (fun v j wr => ∃ i : Nat, i ≤ m ∧ j = .int .i64 i ∧ wr.ownsRow wo.heap.size 9 1 v (3 * i) (textsV (((allT k).take i).flatMap ext3)) ∧ Below wo.heap.size wo wr) (fun _ j _ => m - (intOf j).toNat)
      case atStart => exact ⟨0, Nat.zero_le _, rfl, hown1, (Below.refl _ _).grown hg1 (Nat.le_refl _) (fun k hk => by cases hk)⟩
      case round =>
        clear hown1 hg1 hz1
        obtain ⟨i, hi, rfl, hown, hBi⟩ := hrel
        by_cases hlti : i < m
        · obtain ⟨t, ht⟩ : ∃ t, (allT k)[i]? = some t := ⟨_, List.getElem?_eq_getElem (by rw [HM.out] at hlti; exact hlti)⟩
          have hcell : wr.cell? ⟨b, off + i, none⟩ = some (.string ⟨t.toArray⟩) := (hBi.cell (p := ⟨b, off + i, none⟩) hbl).trans (HC.out i t ht)
          obtain ⟨S, hS⟩ : ∃ S : ByteArray, S = ⟨t.toArray⟩ := ⟨_, rfl⟩
          rw [← hS] at hcell
          have htl : S.size ≤ 5 := by rw [hS]; show t.length ≤ 5; rw [(HT.out t (List.mem_of_getElem? ht)).1]; omega
          have HSS := Lib.hid hS
          clear hS
          have HS := Lib.hid (flat_take_succ (allT k) i t ht)
          have e1 := Lib.hid (ba_cat t [42])
          have e2 := Lib.hid (ba_cat t [48])
          have e3 := Lib.hid (ba_cat t [49])
          clear ht
          go_wp2_with fail
          have n3 : ∀ c : UInt8, (9223372036854775807 < S.size + (⟨#[c]⟩ : ByteArray).size) = False := fun c => by show (9223372036854775807 < S.size + 1) = False; simp; omega
          have n1 : (9223372036854775807 < S.size + 1) = False := by simp; omega
          have hne : u5.ownBlock ≠ some b := fun e => by have := (hown.lt b e).1; omega
          have hbs := hBi.size
          have q0 : (0 : Int) ≤ (i : Int) := Int.natCast_nonneg _
          have q1 : (i : Int) < (m : Int) := by omega
          obtain ⟨i0, hi0, hz0, hz1, hz2⟩ := info_parts infoS
          go_region_held3 (fun w' => w'.cell? ⟨b, off + i, none⟩ = some (.string S))
            (first
              | go_keep
              | (rw [hgrow.cell_far _ (by simp; omega) (Ne.symm hne)]; assumption))
            ((refine step_append_lies _ (by rfl) _ _ _ (by rfl) wo.heap.size 9 i0 _ 1 16 Try.underlying24 hi0 hz0 hz1 hz2 rfl (by omega) u5 (3 * i) _ (by rfl) ((hown.alloc _).drew) ⟨wr.heap.size, 0, none⟩ 3 3 [.string (S ++ ⟨#[42]⟩), .string (S ++ ⟨#[48]⟩), .string (S ++ ⟨#[49]⟩)] (by rfl) (by rfl) (World.news_of_block (cs := #[.string (S ++ ⟨#[42]⟩), .string (S ++ ⟨#[48]⟩), .string (S ++ ⟨#[49]⟩)]) (t := 9) (fr := (0, 0)) (heap_alloc_new wr _)) (by simp [Value.oneCell']) (by omega) (by unfold maxLen; omega) (by omega) (by simp; omega) (wr.heap.size + 1) (by simp) ?_; intro gg cap w1 hown1 hgrow hat hlt))
          have hB1 : Below wo.heap.size wo w1 := ((hBi.alloc hbs _).drew).grown hgrow (by simp; omega) (fun k hk => (hown.lt k hk).1)
          clear hgrow hat n1 n3
          go_wp2_with fail
          go_roundw
          case rel =>
            refine ⟨i + 1, by omega, by go_num, ?_, hB1⟩
            rw [HS.out, show 3 * (i + 1) = 3 * i + 3 by omega]
            have : textsV (((allT k).take i).flatMap ext3 ++ ext3 t) = textsV (((allT k).take i).flatMap ext3) ++ [.string (S ++ ⟨#[42]⟩), .string (S ++ ⟨#[48]⟩), .string (S ++ ⟨#[49]⟩)] := by
              rw [HSS.out, show (⟨#[42]⟩ : ByteArray) = ⟨[(42 : UInt8)].toArray⟩ from rfl, show (⟨#[48]⟩ : ByteArray) = ⟨[(48 : UInt8)].toArray⟩ from rfl, show (⟨#[49]⟩ : ByteArray) = ⟨[(49 : UInt8)].toArray⟩ from rfl, e1.out, e2.out, e3.out]
              simp [textsV, ext3]
            rw [this]
            exact hown1
          case measure => simp [intOf]; omega
        · obtain rfl : i = m := by omega
          go_wp2_with fail
          go_roundw
          case rel =>
            refine ⟨k + 1, by omega, by go_num, ?_, hB.trans (hBi.mono hB.size)⟩
            have hl : (allT (k + 1)).length = 3 * i := by rw [HL.out, HM.out, ← flat_len (allT k) _ (Nat.le_refl _), List.take_length]
            rw [hl, HL.out]
            have := own_mono hown hB.size
            rw [show (allT k).take i = allT k by rw [HM.out, List.take_length]] at this
            exact this
          case measure => simp [intOf]; omega
    · obtain rfl : k = n := by omega
      go_wp2_with fail
      go_ret
      exact ⟨⟨_, rfl, hown⟩, hB⟩

end Go.Proofs.Ytnplaiolencgjaa
