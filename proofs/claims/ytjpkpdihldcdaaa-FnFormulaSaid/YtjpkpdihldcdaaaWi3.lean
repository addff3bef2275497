/- Walks: the program's functions on two tables and on a held input. -/
import Derived.Test.YtjpkpdihldcdaaaPd
import Derived.Test.YtjpkpdihldcdaaaWr
namespace Go.Proofs.Ytjpkpdihldcdaaa
set_option linter.unusedVariables false
set_option linter.unusedSimpArgs false
open Go.RowKit

theorem holdI (s i : Nat) (v : Int) (w : World) (hs : s < 32) (hi : i < 5) (h0 : 0 ≤ v) (h1 : v ≤ 1) :
    Calls Try.prog 101 #[.int .i64 (s : Int), .int .i64 (i : Int), .int .i64 v] w fun e w' => e = .returned (.int .i64 ((holdN s i v.toNat : Nat) : Int)) ∧ ∃ n, w' = w.drewN n := by
  have E := Lib.hid (hold_bits s i v hs hi h0 h1)
  go_enter Try.func101, Try.ntmps101
  go_wp2_with fail
  go_quiet (fail)
  go_wp2_with fail
  go_ret
  exact ⟨ret_int E.out, ⟨_, rfl⟩⟩

theorem below_draws {w w' : World} (h : ∃ n, w' = w.drewN n) : Below w.heap.size w w' := by
  obtain ⟨n, rfl⟩ := h
  exact ⟨rfl, rfl, rfl, Nat.le_refl _, fun _ _ => rfl⟩

theorem holdInput1 (n i s b c d : Nat) (v : Int) (g : Nat → Nat) (w : World) (h5 : n ≤ 5) (hs : s < 2 ^ n) (hi : i < n) (h0 : 0 ≤ v) (h1 : v ≤ 1)
    (hb : w.heap[b]? = some (.cells (tcells n g) 67 (0, 0))) (hc : w.cell? ⟨c, 0, none⟩ = some (.int .i64 (i : Int))) (hd : w.cell? ⟨d, 0, none⟩ = some (.int .i64 v)) :
    Calls Try.prog 100 #[.int .i64 (s : Int), .pointer (some ⟨b, 0, none⟩), .pointer (some ⟨c, 0, none⟩), .pointer (some ⟨d, 0, none⟩)] w fun e w' => e = .returned (.int .u8 ((g (holdN s i v.toNat) : Nat) : Int)) ∧ Below w.heap.size w w' := by
  have h32 := pow_le32 n h5
  have hh := hold_lt n s i v.toNat h5 hs hi (by omega)
  have hcell : w.cell? ⟨b, 1 + holdN s i v.toNat, none⟩ = some (.int .u8 ((g (holdN s i v.toNat) : Nat) : Int)) := by
    rw [cell_of_row _ _ _ _ _ _ hb]; exact tcells_succ _ _ _ (by omega)
  have hh32 : holdN s i v.toNat < 32 := by omega
  have hs32 : s < 32 := by omega
  clear hb hh hs h32
  go_enter Try.func100, Try.ntmps100
  go_wp2_with fail
  refine (holdI s i v _ hs32 (by omega) h0 h1).mono ?_
  rintro e w1 ⟨rfl, hw1⟩
  have hcell1 : w1.cell? ⟨b, 1 + holdN s i v.toNat, none⟩ = some (.int .u8 ((g (holdN s i v.toNat) : Nat) : Int)) := by
    obtain ⟨q, rfl⟩ := hw1; exact hcell
  have HW := Lib.hid hw1
  clear hcell hw1 hc hd
  go_wp2_with fail
  go_ret
  exact ⟨rfl, below_draws HW.out⟩

theorem holdInputI (f : ByteArray) (i v : Int) (w : World) (hs : f.size ≤ maxLen) :
    Calls Try.prog 33 #[.string f, .int .i64 i, .int .i64 v] w fun e w' => e = .returned (.tuple #[.string (strI (holdOk f.data.toList i v) (holdL f.data.toList i.toNat v.toNat)), .bool (holdOk f.data.toList i v)]) ∧ Below w.heap.size w w' := by
  cases hb : isTab f.data.toList
  · have HV := Lib.hid (rt_no _ hb)
    have H := Lib.hid (show holdOk f.data.toList i v = false by unfold holdOk inOk; rw [hb]; rfl)
    clear hb
    go_enter Try.func33, Try.ntmps33
    go_wp2_with (first | (go_at_call 82; (with_reducible refine (readTable _ _ hs).mono ?_); rw [HV.out]; rintro e w1 ⟨rfl, hb1⟩) | ((with_reducible refine wpList_alloc_row 67 _ zeroT ?_); (try simp only [Act.put, List.setIfInBounds_toArray, List.set_cons_succ, List.set_cons_zero, World.size_alloc, Nat.add_assoc, Nat.reduceAdd])) | ((with_reducible refine wpList_storeT_new 67 _ _ (0) _ (fun _ => 0) _ _ _ ?_ ?_ infoT ?_); (first | rfl | simp [Act.eval, Act.put]); rfl; (try simp only [Act.put, List.setIfInBounds_toArray, List.set_cons_succ, List.set_cons_zero, World.size_alloc, Nat.add_assoc, Nat.reduceAdd])) | fail)
    go_ret2
    refine ⟨by rw [H.out]; rfl, ?_⟩
    exact ((((Below.refl _ _).alloc (Nat.le_refl _) _).alloc (by simp) _).trans (hb1.mono (by simp; omega))).alloc (by have := hb1.size; simp at this; omega) _
  · obtain ⟨n, h1, h5, hn, hlg, hz, hv⟩ := rt_yes _ hb
    have HV := Lib.hid hv
    have h0 := tcells_zero n (tv f.data.toList)
    have HZ := Lib.hid (tv_le _ hz)
    have HN := Lib.hid (show 2 ^ n = f.size from hn)
    have h32 : f.size ≤ 32 := by rw [← HN.out]; exact pow_le32 n h5
    by_cases hok : (0 ≤ i ∧ i < n) ∧ (0 ≤ v ∧ v ≤ 1)
    · have H := Lib.hid (show holdOk f.data.toList i v = true by unfold holdOk inOk valOk; rw [hb, hlg]; simp; omega)
      obtain ⟨⟨a1, a2⟩, a3, a4⟩ := hok
      obtain ⟨i, rfl⟩ := Int.eq_ofNat_of_zero_le a1
      have hin : i < n := by omega
      have d1 : decide ((i : Int) < 0) = false := by simp
      have d2 : decide (n ≤ i) = false := by simp; omega
      have d3 : decide (v < 0) = false := by simp; omega
      have d4 : decide (1 < v) = false := by simp; omega
      clear hb hn hlg hz hv a1 a2
      go_enter Try.func33, Try.ntmps33
      go_wp2_with fail
      refine (readTable _ _ hs).mono ?_
      rw [HV.out]
      rintro e w1 ⟨rfl, hb1⟩
      have hci : w1.cell? ⟨w.heap.size, 0, none⟩ = some (.int .i64 (i : Int)) := by rw [hb1.cell (by simp; omega), World.cell?_alloc_lt _ _ _ (by simp), cell_of_row _ _ _ _ _ _ (heap_alloc_new _ _)]; rfl
      have hcv : w1.cell? ⟨w.heap.size + 1, 0, none⟩ = some (.int .i64 v) := by rw [hb1.cell (by simp), cell_of_row _ _ _ _ _ _ (heap_alloc2_new _ _ _)]; rfl
      have hsz : w.heap.size + 1 < w1.heap.size := by have := hb1.size; simp at this; omega
      have hB1 : Below w.heap.size w w1 := (((Below.refl _ _).alloc (Nat.le_refl _) _).alloc (by simp) _).trans (hb1.mono (by simp; omega))
      have hci2 : ∀ o : Obj, (w1.alloc o).cell? ⟨w.heap.size, 0, none⟩ = some (.int .i64 (i : Int)) := fun o => (World.cell?_alloc_lt _ _ _ (by show w.heap.size < w1.heap.size; omega)).trans hci
      have hcv2 : ∀ o : Obj, (w1.alloc o).cell? ⟨w.heap.size + 1, 0, none⟩ = some (.int .i64 v) := fun o => (World.cell?_alloc_lt _ _ _ (by show w.heap.size + 1 < w1.heap.size; omega)).trans hcv
      clear hb1
      go_wp2_with (first | ((with_reducible refine wpList_alloc_row 67 _ zeroT ?_); (try simp only [Act.put, List.setIfInBounds_toArray, List.set_cons_succ, List.set_cons_zero, World.size_alloc, Nat.add_assoc, Nat.reduceAdd])) | ((with_reducible refine wpList_storeT_new 67 _ _ (n) _ (tv f.data.toList) _ _ _ ?_ ?_ infoT ?_); (first | rfl | simp [Act.eval, Act.put]); rfl; (try simp only [Act.put, List.setIfInBounds_toArray, List.set_cons_succ, List.set_cons_zero, World.size_alloc, Nat.add_assoc, Nat.reduceAdd])) | fail)
      refine (each n f.size _ _ (fun s => tv f.data.toList (holdN s i v.toNat)) h5 HN.out _ Try.call100 ?_).mono ?_
      · intro s hs w2 hb2
        refine holdInput1 n i s w1.heap.size w.heap.size (w.heap.size + 1) v (tv f.data.toList) w2 h5 (by rw [HN.out]; exact hs) hin a3 a4 ((hb2.block _ (by simp)).trans (heap_alloc_new _ _)) ?_ ?_
        · rw [hb2.cell (by simp; omega)]; exact hci2 _
        · rw [hb2.cell (by simp; omega)]; exact hcv2 _
      rintro e w2 ⟨rfl, hb2⟩
      have hB : Below w.heap.size w w2 := (hB1.alloc hB1.size _).trans (hb2.mono (by have := hB1.size; simp; omega))
      clear hB1 hb2 hci hcv hci2 hcv2
      go_wp2_with fail
      refine (text n f.size _ h5 HN.out (fun s hs => by rw [upto_lt _ _ _ hs]; exact HZ.out _) _).mono ?_
      rintro e w3 ⟨rfl, hb3⟩
      go_wp2_with fail
      go_ret2
      refine ⟨?_, hB.trans (hb3.mono hB.size)⟩
      rw [H.out, strI_true, txt_upto]; rfl
    · have H := Lib.hid (show holdOk f.data.toList i v = false by unfold holdOk inOk valOk; rw [hb, hlg]; simp; omega)
      have key : ∀ (d1 d2 d3 d4 : Bool), decide (i < 0) = d1 → decide ((n : Int) ≤ i) = d2 → decide (v < 0) = d3 → decide (1 < v) = d4 → (d1 || d2 || d3 || d4) = true →
          Calls Try.prog 33 #[.string f, .int .i64 i, .int .i64 v] w fun e w' => e = .returned (.tuple #[.string (strI (holdOk f.data.toList i v) (holdL f.data.toList i.toNat v.toNat)), .bool (holdOk f.data.toList i v)]) ∧ Below w.heap.size w w' := by
        clear hb hn hlg hz hv hok
        intro d1 d2 d3 d4 e1 e2 e3 e4 hd
        go_enter Try.func33, Try.ntmps33
        go_wp2_with fail
        refine (readTable _ _ hs).mono ?_
        rw [HV.out]
        rintro e w1 ⟨rfl, hb1⟩
        have hci : w1.cell? ⟨w.heap.size, 0, none⟩ = some (.int .i64 i) := by rw [hb1.cell (by simp; omega), World.cell?_alloc_lt _ _ _ (by simp), cell_of_row _ _ _ _ _ _ (heap_alloc_new _ _)]; rfl
        have hcv : w1.cell? ⟨w.heap.size + 1, 0, none⟩ = some (.int .i64 v) := by rw [hb1.cell (by simp), cell_of_row _ _ _ _ _ _ (heap_alloc2_new _ _ _)]; rfl
        have hsz : w.heap.size + 1 < w1.heap.size := by have := hb1.size; simp at this; omega
        have hB1 : Below w.heap.size w w1 := (((Below.refl _ _).alloc (Nat.le_refl _) _).alloc (by simp) _).trans (hb1.mono (by simp; omega))
        have hci2 : ∀ o : Obj, (w1.alloc o).cell? ⟨w.heap.size, 0, none⟩ = some (.int .i64 i) := fun o => (World.cell?_alloc_lt _ _ _ (by show w.heap.size < w1.heap.size; omega)).trans hci
        have hcv2 : ∀ o : Obj, (w1.alloc o).cell? ⟨w.heap.size + 1, 0, none⟩ = some (.int .i64 v) := fun o => (World.cell?_alloc_lt _ _ _ (by show w.heap.size + 1 < w1.heap.size; omega)).trans hcv
        clear hb1
        rcases d1 with _ | _ <;> rcases d2 with _ | _ <;> rcases d3 with _ | _ <;> rcases d4 with _ | _
        all_goals first
          | (exfalso; simp at hd; done)
          | (clear hd
             go_wp2_with (first | ((with_reducible refine wpList_alloc_row 67 _ zeroT ?_); (try simp only [Act.put, List.setIfInBounds_toArray, List.set_cons_succ, List.set_cons_zero, World.size_alloc, Nat.add_assoc, Nat.reduceAdd])) | ((with_reducible refine wpList_storeT_new 67 _ _ (n) _ (tv f.data.toList) _ _ _ ?_ ?_ infoT ?_); (first | rfl | simp [Act.eval, Act.put]); rfl; (try simp only [Act.put, List.setIfInBounds_toArray, List.set_cons_succ, List.set_cons_zero, World.size_alloc, Nat.add_assoc, Nat.reduceAdd])) | fail)
             go_ret2
             exact ⟨by rw [H.out]; rfl, hB1.alloc hB1.size _⟩)
      refine key _ _ _ _ rfl rfl rfl rfl ?_
      simp; omega

end Go.Proofs.Ytjpkpdihldcdaaa
