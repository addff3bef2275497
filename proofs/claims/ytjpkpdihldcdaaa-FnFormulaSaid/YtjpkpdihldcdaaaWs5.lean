/- Walks: the reference's signs, decisions, sensitivity. -/
import Derived.Test.YtjpkpdihldcdaaaWs4
namespace Go.Proofs.Ytjpkpdihldcdaaa
set_option linter.unusedVariables false
set_option linter.unusedSimpArgs false
open Go.RowKit

theorem l1SignS (f : ByteArray) (n i : Nat) (w : World) (h5 : n ≤ 5) (hn : 2 ^ n = f.size) (hi : i < n) (hz : f.data.toList.all zb = true) :
    Calls Try.prog 119 #[.string f, .int .i64 (i : Int)] w fun e w' => e = .returned (.int .i64 ((sgN (upB (tv f.data.toList) f.size i) (dnB (tv f.data.toList) f.size i) : Nat) : Int)) ∧ w = w' := by
  have HZ := Lib.hid hz
  have HN := Lib.hid hn
  have h32 : f.size ≤ 32 := by rw [← hn]; exact pow_le32 n h5
  clear hz hn
  go_enter Try.func119, Try.ntmps119
  go_wp2_with fail
  go_loop [5, 6] (fun o j => ∃ k : Nat, k ≤ f.size ∧ j = .int .i64 k ∧ o = .int .i64 ((sgN (upB (tv f.data.toList) k i) (dnB (tv f.data.toList) k i) : Nat) : Int)) (fun _ j => f.size - (intOf j).toNat)
  case atStart => exact ⟨0, Nat.zero_le _, rfl, rfl⟩
  case round =>
    obtain ⟨k, hk, rfl, rfl⟩ := hrel
    by_cases hlt : k < f.size
    · have hh0 : holdN k i 0 < f.size := by rw [← HN.out]; exact hold_lt n k i _ h5 (by rw [HN.out]; exact hlt) hi (by omega)
      have hh1 : holdN k i 1 < f.size := by rw [← HN.out]; exact hold_lt n k i _ h5 (by rw [HN.out]; exact hlt) hi (by omega)
      have a0 := tv_le _ HZ.out (holdN k i 0)
      have a1 := tv_le _ HZ.out (holdN k i 1)
      have U := Lib.hid (upB_succ (tv f.data.toList) k i)
      have D := Lib.hid (dnB_succ (tv f.data.toList) k i)
      generalize upB (tv f.data.toList) k i = up at *
      generalize dnB (tv f.data.toList) k i = dn at *
      have E1 := sg_or1 up dn
      have E2 := sg_or2 up dn
      go_wp2_with fail
      refine (l1SetS k i 0 _ (by omega) (by omega) (by omega) (by omega)).mono ?_
      rintro e w' ⟨rfl, rfl⟩
      go_wp2_with fail
      refine (l1AtS f (holdN k i 0) _ hh0 HZ.out).mono ?_
      rintro e w' ⟨rfl, rfl⟩
      go_wp2_with fail
      refine (l1SetS k i 1 _ (by omega) (by omega) (by omega) (by omega)).mono ?_
      rintro e w' ⟨rfl, rfl⟩
      go_wp2_with fail
      refine (l1AtS f (holdN k i 1) _ hh1 HZ.out).mono ?_
      rintro e w' ⟨rfl, rfl⟩
      rcases (show tv f.data.toList (holdN k i 0) = 0 ∨ tv f.data.toList (holdN k i 0) = 1 by omega) with c1 | c1 <;> rcases (show tv f.data.toList (holdN k i 1) = 0 ∨ tv f.data.toList (holdN k i 1) = 1 by omega) with c2 | c2
      all_goals
        go_wp2_with fail
        go_round
        case rel => exact ⟨k + 1, by omega, by go_num, by rw [U.out, D.out, c1, c2]; simp⟩
        case measure => simp [intOf]; omega
    · obtain rfl : k = f.size := by omega
      go_wp2_with fail
      go_ret
      exact ⟨rfl, rfl⟩

theorem signOfS (f : ByteArray) (i : Int) (w : World) (hf : f.size ≤ maxLen) :
    Calls Try.prog 53 #[.string f, .int .i64 i] w fun e w' => e = .returned (.string (strI (inOk f.data.toList i) (signL f.data.toList i.toNat))) ∧ w = w' := by
  cases h1 : inOk f.data.toList i
  · go_enter Try.func53, Try.ntmps53
    go_wp2_with fail
    refine (l1InputS _ _ _ hf).mono ?_
    rw [h1]
    rintro e w' ⟨rfl, rfl⟩
    go_wp2_with fail
    go_ret
    exact ⟨rfl, rfl⟩
  · obtain ⟨n, k, g5, hn, hk, rfl, hz⟩ := inOk_yes _ _ h1
    have HN := Lib.hid hn
    have HZ := Lib.hid hz
    have T := Lib.hid (sg_text (upB (tv f.data.toList) f.size k) (dnB (tv f.data.toList) f.size k))
    have hle := sgN_le (upB (tv f.data.toList) f.size k) (dnB (tv f.data.toList) f.size k)
    have SL := Lib.hid (show signL f.data.toList ((k : Nat) : Int).toNat = [sgB (upB (tv f.data.toList) f.size k) (dnB (tv f.data.toList) f.size k)] from rfl)
    clear hn hz
    go_enter Try.func53, Try.ntmps53
    go_wp2_with fail
    refine (l1InputS _ _ _ hf).mono ?_
    rw [h1]
    rintro e w' ⟨rfl, rfl⟩
    go_wp2_with fail
    refine (l1SignS f n k _ g5 HN.out hk HZ.out).mono ?_
    rintro e w' ⟨rfl, rfl⟩
    go_wp2_with fail
    refine (l1SignS f n k _ g5 HN.out hk HZ.out).mono ?_
    rintro e w' ⟨rfl, rfl⟩
    go_wp2_with fail
    go_ret
    exact ⟨ret_str (by rw [T.out, SL.out]; rfl), rfl⟩

theorem l1ConstantS (f : ByteArray) (w : World) (h0 : 0 < f.size) (h32 : f.size ≤ 32) (hz : f.data.toList.all zb = true) :
    Calls Try.prog 105 #[.string f] w fun e w' => e = .returned (.int .i64 (cnV f.data.toList)) ∧ Below w.heap.size w w' := by
  have HZ := Lib.hid hz
  obtain ⟨b1, b2, be⟩ := tv_byte f 0 h0 hz
  have BE := Lib.hid be
  clear hz be
  go_enter Try.func105, Try.ntmps105
  go_wp2_with fail
  go_loopw [3] (fun j wr => ∃ k : Nat, 1 ≤ k ∧ k ≤ f.size ∧ j = .int .i64 k ∧ Hid (∀ i, i < k → tv f.data.toList i = tv f.data.toList 0) ∧ Hid (∃ n, wr = w.drewN n)) (fun j _ => f.size - (intOf j).toNat)
  case atStart => exact ⟨1, by omega, by omega, rfl, (fun i hi => by rw [show i = 0 by omega]), ⟨0, rfl⟩⟩
  case round =>
    obtain ⟨k, h1, hk, rfl, hj, hW⟩ := hrel
    by_cases hlt : k < f.size
    · obtain ⟨c1, c2, ce⟩ := tv_byte f k hlt HZ.out
      have CE := Lib.hid ce
      clear ce
      by_cases hq : tv f.data.toList k = tv f.data.toList 0
      · have hne : ((f[k].toNat : Int) != (f[0].toNat : Int)) = false := by rw [bne_eq_false_iff_eq]; have := CE.out; have := BE.out; omega
        have HQ := Lib.hid hq
        clear hq
        go_wp2_with fail
        go_quiet (fail)
        go_wp2_with fail
        go_roundw
        case rel =>
          refine ⟨k + 1, by omega, by omega, by go_num, fun i hi => ?_, ?_⟩
          · rcases Nat.lt_or_ge i k with h | h
            · exact hj.out i h
            · obtain rfl : i = k := by omega
              exact HQ.out
          · obtain ⟨n, rfl⟩ := hW.out
            exact ⟨n + nq, by rw [World.drewN_drewN]⟩
        case measure => simp [intOf]; omega
      · have hne : ((f[k].toNat : Int) != (f[0].toNat : Int)) = true := by rw [bne_iff_ne]; have := CE.out; have := BE.out; omega
        have HF := Lib.hid (cnV_false f.data.toList (constB_false (tv f.data.toList) f.size k hlt hq))
        clear hq
        go_wp2_with fail
        go_quiet (fail)
        go_wp2_with fail
        go_ret
        refine ⟨ret_int HF.out.symm, ?_⟩
        obtain ⟨n, rfl⟩ := hW.out
        exact ⟨rfl, rfl, rfl, Nat.le_refl _, fun _ _ => rfl⟩
    · have HT := Lib.hid (cnV_true f.data.toList (constB_true (tv f.data.toList) f.size (fun i hi => hj.out i (by omega))))
      go_wp2_with fail
      refine (l1AtS f 0 _ h0 HZ.out).mono ?_
      rintro e w' ⟨rfl, rfl⟩
      go_wp2_with fail
      go_ret
      refine ⟨ret_int HT.out.symm, ?_⟩
      obtain ⟨n, rfl⟩ := hW.out
      exact ⟨rfl, rfl, rfl, Nat.le_refl _, fun _ _ => rfl⟩

theorem decidesAloneS (f : ByteArray) (i v : Int) (w : World) (hf : f.size ≤ maxLen) :
    Calls Try.prog 37 #[.string f, .int .i64 i, .int .i64 v] w fun e w' => e = .returned (.int .i64 (decL f.data.toList i v)) ∧ Below w.heap.size w w' := by
  cases h1 : inOk f.data.toList i
  · have H := Lib.hid (show decL f.data.toList i v = -2 by unfold decL holdOk; rw [h1]; rfl)
    go_enter Try.func37, Try.ntmps37
    go_wp2_with fail
    refine (l1InputS _ _ _ hf).mono ?_
    rw [h1]
    rintro e w' ⟨rfl, rfl⟩
    go_wp2_with fail
    go_ret
    exact ⟨ret_int H.out.symm, Below.refl _ _⟩
  cases h2 : (decide (0 ≤ v) && decide (v ≤ 1))
  · have H := Lib.hid (show decL f.data.toList i v = -2 by unfold decL holdOk valOk; rw [h1, h2]; rfl)
    go_enter Try.func37, Try.ntmps37
    go_wp2_with fail
    refine (l1InputS _ _ _ hf).mono ?_
    rw [h1]
    rintro e w' ⟨rfl, rfl⟩
    go_wp2_with fail
    refine (l1ValueS _ _).mono ?_
    rw [h2]
    rintro e w' ⟨rfl, rfl⟩
    go_wp2_with fail
    go_ret
    exact ⟨ret_int H.out.symm, Below.refl _ _⟩
  · obtain ⟨n, k, g5, hn, hk, rfl, hz⟩ := inOk_yes _ _ h1
    have g2 := h2
    simp only [Bool.and_eq_true, decide_eq_true_eq] at g2
    have h32 : f.size ≤ 32 := by have := pow_le32 n g5; rw [hn] at this; exact this
    have hp : 0 < f.size := by have := Nat.two_pow_pos n; rw [hn] at this; exact this
    have HL := Lib.hid (decL_yes f.data.toList n k v h1 g5 hn hk g2.1 g2.2 hz)
    have HZ2 := Lib.hid (zb_txt f.size (fun s => tv f.data.toList (holdN s k v.toNat)) (fun s _ => tv_le _ hz _))
    have HN := Lib.hid hn
    have HZ := Lib.hid hz
    clear hn hz
    go_enter Try.func37, Try.ntmps37
    go_wp2_with fail
    refine (l1InputS _ _ _ hf).mono ?_
    rw [h1]
    rintro e w' ⟨rfl, rfl⟩
    go_wp2_with fail
    refine (l1ValueS _ _).mono ?_
    rw [h2]
    rintro e w' ⟨rfl, rfl⟩
    go_wp2_with fail
    refine (l1HoldS f n k v _ g5 HN.out hk g2.1 g2.2 HZ.out).mono ?_
    rintro e w1 ⟨rfl, hb1⟩
    have hsz : (⟨(holdL f.data.toList k v.toNat).toArray⟩ : ByteArray).size = f.size := by show (holdL f.data.toList k v.toNat).length = f.size; rw [holdL, txt_length]; rfl
    have HSZ := Lib.hid hsz
    clear hsz
    go_wp2_with fail
    refine (l1ConstantS _ _ (by rw [HSZ.out]; exact hp) (by rw [HSZ.out]; exact h32) HZ2.out).mono ?_
    rintro e w2 ⟨rfl, hb2⟩
    go_wp2_with fail
    go_ret
    exact ⟨ret_int (by rw [HL.out]), hb1.trans (hb2.mono hb1.size)⟩

theorem sensitivityOfS (f : ByteArray) (w : World) (hf : f.size ≤ maxLen) :
    Calls Try.prog 32 #[.string f] w fun e w' => e = .returned (.int .i64 (sensL f.data.toList)) ∧ w = w' := by
  cases h1 : isTab f.data.toList
  · have H := Lib.hid (show sensL f.data.toList = -1 by unfold sensL; rw [h1]; rfl)
    go_enter Try.func32, Try.ntmps32
    go_wp2_with fail
    refine (tableValidS _ _ hf).mono ?_
    rw [h1]
    rintro e w' ⟨rfl, rfl⟩
    go_wp2_with fail
    go_ret
    exact ⟨ret_int H.out.symm, rfl⟩
  · obtain ⟨n, g1, g5, hn, hlg, hz, hv⟩ := rt_yes _ h1
    have H := Lib.hid (show sensL f.data.toList = snT (tv f.data.toList) n f.size by unfold sensL; rw [h1, hlg]; rfl)
    have HI := Lib.hid (show inpN f.size = (n : Int) from inpN_pow _ n g1 g5 hn.symm)
    have h32 : f.size ≤ 32 := by have := pow_le32 n g5; rw [hn] at this; exact this
    have HN := Lib.hid (show 2 ^ n = f.size from hn)
    have HZ := Lib.hid hz
    clear hn hlg hz hv
    go_enter Try.func32, Try.ntmps32
    go_wp2_with fail
    refine (tableValidS _ _ hf).mono ?_
    rw [h1]
    rintro e w' ⟨rfl, rfl⟩
    go_wp2_with fail
    go_loop [3, 4] (fun c j => ∃ k : Nat, k ≤ f.size ∧ j = .int .i64 k ∧ c = .int .i64 ((snT (tv f.data.toList) n k : Nat) : Int)) (fun _ j => f.size - (intOf j).toNat)
    case atStart => exact ⟨0, Nat.zero_le _, rfl, rfl⟩
    case round =>
      obtain ⟨k, hk, rfl, rfl⟩ := hrel
      by_cases hlt : k < f.size
      · have hT := snT_le (tv f.data.toList) n k
        have hT2 : snT (tv f.data.toList) n k ≤ 32 * 5 := Nat.le_trans hT (Nat.mul_le_mul (by omega) g5)
        clear hT
        go_wp2_with fail
        go_loop [3, 5] (fun c j => ∃ i : Nat, i ≤ n ∧ j = .int .i64 i ∧ c = .int .i64 ((snT (tv f.data.toList) n k + snR (tv f.data.toList) k i : Nat) : Int)) (fun _ j => n - (intOf j).toNat)
        case atStart => exact ⟨0, Nat.zero_le _, rfl, rfl⟩
        case round =>
          obtain ⟨i, hi, rfl, rfl⟩ := hrel
          have hR := snR_le (tv f.data.toList) k i
          by_cases hlti : i < n
          · have hh1 : holdN k i 1 < f.size := by rw [← HN.out]; exact hold_lt n k i _ g5 (by rw [HN.out]; exact hlt) hlti (by omega)
            have hR1 : snR (tv f.data.toList) k (i + 1) = snR (tv f.data.toList) k i + if snB (tv f.data.toList) k i then 1 else 0 := rfl
            have HR := Lib.hid hR1
            have hb := bitN_le k i
            clear hR1
            rcases (show bitN k i = 0 ∨ bitN k i = 1 by omega) with c | c
            · by_cases hq : tv f.data.toList k = tv f.data.toList (holdN k i 1)
              · have hne : (((tv f.data.toList k : Nat) : Int) != ((tv f.data.toList (holdN k i 1) : Nat) : Int)) = false := by rw [hq]; simp
                have HS := Lib.hid (show snB (tv f.data.toList) k i = false by unfold snB; rw [c]; simp [hq])
                clear hq
                go_wp2_with fail
                refine (l1InputsS _ _ hf).mono ?_
                rw [HI.out]
                rintro e w' ⟨rfl, rfl⟩
                go_wp2_with fail
                refine (l1BitS k i _ (by omega) (by omega)).mono ?_
                rintro e w' ⟨rfl, rfl⟩
                go_wp2_with fail
                refine (l1AtS f k _ hlt HZ.out).mono ?_
                rintro e w' ⟨rfl, rfl⟩
                go_wp2_with fail
                refine (l1SetS k i 1 _ (by omega) (by omega) (by omega) (by omega)).mono ?_
                rintro e w' ⟨rfl, rfl⟩
                go_wp2_with fail
                refine (l1AtS f (holdN k i 1) _ hh1 HZ.out).mono ?_
                rintro e w' ⟨rfl, rfl⟩
                go_wp2_with fail
                go_round
                case rel => exact ⟨i + 1, by omega, by go_num, by rw [HR.out, HS.out]; rfl⟩
                case measure => simp [intOf]; omega
              · have hne : (((tv f.data.toList k : Nat) : Int) != ((tv f.data.toList (holdN k i 1) : Nat) : Int)) = true := by rw [bne_iff_ne]; exact fun e => hq (Int.ofNat.inj e)
                have HS := Lib.hid (show snB (tv f.data.toList) k i = true by unfold snB; rw [c]; simpa using hq)
                clear hq
                go_wp2_with fail
                refine (l1InputsS _ _ hf).mono ?_
                rw [HI.out]
                rintro e w' ⟨rfl, rfl⟩
                go_wp2_with fail
                refine (l1BitS k i _ (by omega) (by omega)).mono ?_
                rintro e w' ⟨rfl, rfl⟩
                go_wp2_with fail
                refine (l1AtS f k _ hlt HZ.out).mono ?_
                rintro e w' ⟨rfl, rfl⟩
                go_wp2_with fail
                refine (l1SetS k i 1 _ (by omega) (by omega) (by omega) (by omega)).mono ?_
                rintro e w' ⟨rfl, rfl⟩
                go_wp2_with fail
                refine (l1AtS f (holdN k i 1) _ hh1 HZ.out).mono ?_
                rintro e w' ⟨rfl, rfl⟩
                go_wp2_with fail
                go_round
                case rel => exact ⟨i + 1, by omega, by go_num, by rw [HR.out, HS.out]; go_num⟩
                case measure => simp [intOf]; omega
            · have HS := Lib.hid (show snB (tv f.data.toList) k i = false by unfold snB; rw [c]; rfl)
              go_wp2_with fail
              refine (l1InputsS _ _ hf).mono ?_
              rw [HI.out]
              rintro e w' ⟨rfl, rfl⟩
              go_wp2_with fail
              refine (l1BitS k i _ (by omega) (by omega)).mono ?_
              rintro e w' ⟨rfl, rfl⟩
              go_wp2_with fail
              go_round
              case rel => exact ⟨i + 1, by omega, by go_num, by rw [HR.out, HS.out]; rfl⟩
              case measure => simp [intOf]; omega
          · obtain rfl : i = n := by omega
            go_wp2_with fail
            refine (l1InputsS _ _ hf).mono ?_
            rw [HI.out]
            rintro e w' ⟨rfl, rfl⟩
            go_wp2_with fail
            go_round
            case rel => exact ⟨k + 1, by omega, by go_num, rfl⟩
            case measure => simp [intOf]; omega
      · obtain rfl : k = f.size := by omega
        go_wp2_with fail
        go_ret
        exact ⟨ret_int H.out.symm, rfl⟩

end Go.Proofs.Ytjpkpdihldcdaaa
