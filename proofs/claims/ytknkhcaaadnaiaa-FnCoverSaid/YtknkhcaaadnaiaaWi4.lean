/- Walks: the program's functions on two tables. -/
import Derived.Test.YtknkhcaaadnaiaaWi3
namespace Go.Proofs.Ytknkhcaaadnaiaa
set_option linter.unusedVariables false
set_option linter.unusedSimpArgs false
open Go.RowKit

/-- What a function of two values, handed over as a value, does. -/
def Fv2 (gf : Nat) (val : Nat → Nat → Nat) : Prop :=
  ∀ a b : Nat, a ≤ 1 → b ≤ 1 → ∀ w : World, Calls Try.prog gf #[.int .u8 (a : Int), .int .u8 (b : Int)] w fun e w' => e = .returned (.int .u8 ((val a b : Nat) : Int)) ∧ w' = w

theorem orTables1 : Fv2 35 (fun a b => max a b) := by
  intro a b ha hb w
  have E := Lib.hid (or_u8 a (by omega) b (by omega))
  go_enter Try.func35, Try.ntmps35
  go_wp2
  go_ret
  exact ⟨ret_int E.out, rfl⟩

theorem joinTables1 (gf : Nat) (val : Nat → Nat → Nat) (s a n b m c : Nat) (g h : Nat → Nat) (w : World) (eg : ∀ args w, (callFunc gf args).run Try.prog w = .ok (.enter gf args) w) (hv : Fv2 gf val) (hs : s < 32) (hg : g s ≤ 1) (hh : h s ≤ 1)
    (ha : w.cell? ⟨a, 0, none⟩ = some (.func (.func gf) #[] #[])) (hb : w.heap[b]? = some (.cells (tcells n g) 46 (0, 0))) (hc : w.heap[c]? = some (.cells (tcells m h) 46 (0, 0))) :
    Calls Try.prog 58 #[.int .i64 (s : Int), .pointer (some ⟨a, 0, none⟩), .pointer (some ⟨b, 0, none⟩), .pointer (some ⟨c, 0, none⟩)] w fun e w' => e = .returned (.int .u8 ((val (g s) (h s) : Nat) : Int)) ∧ Below w.heap.size w w' := by
  have h1 : w.cell? ⟨b, 1 + s, none⟩ = some (.int .u8 ((g s : Nat) : Int)) := by
    rw [cell_of_row _ _ _ _ _ _ hb]; exact tcells_succ _ _ _ (by omega)
  have h2 : w.cell? ⟨c, 1 + s, none⟩ = some (.int .u8 ((h s : Nat) : Int)) := by
    rw [cell_of_row _ _ _ _ _ _ hc]; exact tcells_succ _ _ _ (by omega)
  have HV := Lib.hid hv
  have hs2 : (s : Int) < 32 := by omega
  clear hb hc hv
  go_enter Try.func58, Try.ntmps58
  go_wp2_with fail
  go_quiet ((exact Calls.quiet_of_same (HV.out _ _ hg hh _)))
  go_wp2_with fail
  go_ret
  exact ⟨rfl, below_draws ⟨_, rfl⟩⟩

theorem joinTables_no (f g : ByteArray) (gf n m : Nat) (u v : Nat → Nat) (p q : Bool) (w : World) (hs : f.size ≤ maxLen) (hs2 : g.size ≤ maxLen)
    (hR : rtV f.data.toList = .tuple #[.agg (tcells n u), .bool p]) (hQ : rtV g.data.toList = .tuple #[.agg (tcells m v), .bool q]) (h : p = true → q = true → n ≠ m) :
    Calls Try.prog 34 #[.string f, .string g, .func (.func gf) #[] #[]] w fun e w' => e = .returned (.tuple #[.string ⟨#[]⟩, .bool false]) ∧ Below w.heap.size w w' := by
  have HV := Lib.hid hR
  have HV2 := Lib.hid hQ
  have HH := Lib.hid h
  have z1 := tcells_zero n u
  have z2 := tcells_zero m v
  clear hR hQ h
  go_enter Try.func34, Try.ntmps34
  go_wp2_with fail
  refine (readTable _ _ hs).mono ?_
  rw [HV.out]
  rintro e w1 ⟨rfl, hb1⟩
  have hB1 : Below w.heap.size w w1 := ((Below.refl _ _).alloc (Nat.le_refl _) _).trans (hb1.mono (by simp))
  clear hb1
  go_wp2_with (first | ((with_reducible refine wpList_alloc_row 46 _ zeroT ?_); (try simp only [Act.put, List.setIfInBounds_toArray, List.set_cons_succ, List.set_cons_zero, World.size_alloc, Nat.add_assoc, Nat.reduceAdd])) | ((with_reducible refine wpList_storeT_new 46 _ _ (n) _ (u) _ _ _ ?_ ?_ infoT ?_); (first | rfl | simp [Act.eval, Act.put]); rfl; (try simp only [Act.put, List.setIfInBounds_toArray, List.set_cons_succ, List.set_cons_zero, World.size_alloc, Nat.add_assoc, Nat.reduceAdd])) | fail)
  refine (readTable _ _ hs2).mono ?_
  rw [HV2.out]
  rintro e w2 ⟨rfl, hb2⟩
  have hT : w2.cell? ⟨w1.heap.size, 0, none⟩ = some (.int .i64 (n : Int)) := by rw [hb2.cell (by simp), cell_of_row _ _ _ _ _ _ (heap_alloc_new _ _)]; exact z1
  have hsz : w1.heap.size < w2.heap.size := by have := hb2.size; simp at this; omega
  have hT2 : ∀ o : Obj, (w2.alloc o).cell? ⟨w1.heap.size, 0, none⟩ = some (.int .i64 (n : Int)) := fun o => (World.cell?_alloc_lt _ _ _ (by show w1.heap.size < w2.heap.size; omega)).trans hT
  have hB2 : Below w.heap.size w w2 := (hB1.alloc hB1.size _).trans (hb2.mono (by have := hB1.size; simp; omega))
  clear hb2 hB1
  cases p
  · go_wp2_with (first | ((with_reducible refine wpList_alloc_row 46 _ zeroT ?_); (try simp only [Act.put, List.setIfInBounds_toArray, List.set_cons_succ, List.set_cons_zero, World.size_alloc, Nat.add_assoc, Nat.reduceAdd])) | ((with_reducible refine wpList_storeT_new 46 _ _ (m) _ (v) _ _ _ ?_ ?_ infoT ?_); (first | rfl | simp [Act.eval, Act.put]); rfl; (try simp only [Act.put, List.setIfInBounds_toArray, List.set_cons_succ, List.set_cons_zero, World.size_alloc, Nat.add_assoc, Nat.reduceAdd])) | fail)
    go_ret2
    exact ⟨rfl, hB2.alloc hB2.size _⟩
  cases q
  · go_wp2_with (first | ((with_reducible refine wpList_alloc_row 46 _ zeroT ?_); (try simp only [Act.put, List.setIfInBounds_toArray, List.set_cons_succ, List.set_cons_zero, World.size_alloc, Nat.add_assoc, Nat.reduceAdd])) | ((with_reducible refine wpList_storeT_new 46 _ _ (m) _ (v) _ _ _ ?_ ?_ infoT ?_); (first | rfl | simp [Act.eval, Act.put]); rfl; (try simp only [Act.put, List.setIfInBounds_toArray, List.set_cons_succ, List.set_cons_zero, World.size_alloc, Nat.add_assoc, Nat.reduceAdd])) | fail)
    go_ret2
    exact ⟨rfl, hB2.alloc hB2.size _⟩
  · have hne : ((n : Int) != (m : Int)) = true := by rw [bne_iff_ne]; exact fun e => HH.out rfl rfl (Int.ofNat.inj e)
    go_wp2_with (first | ((with_reducible refine wpList_alloc_row 46 _ zeroT ?_); (try simp only [Act.put, List.setIfInBounds_toArray, List.set_cons_succ, List.set_cons_zero, World.size_alloc, Nat.add_assoc, Nat.reduceAdd])) | ((with_reducible refine wpList_storeT_new 46 _ _ (m) _ (v) _ _ _ ?_ ?_ infoT ?_); (first | rfl | simp [Act.eval, Act.put]); rfl; (try simp only [Act.put, List.setIfInBounds_toArray, List.set_cons_succ, List.set_cons_zero, World.size_alloc, Nat.add_assoc, Nat.reduceAdd])) | fail)
    go_ret2
    exact ⟨rfl, hB2.alloc hB2.size _⟩

theorem joinTables_yes (f g : ByteArray) (gf n : Nat) (u v : Nat → Nat) (val : Nat → Nat → Nat) (w : World) (hs : f.size ≤ maxLen) (hs2 : g.size ≤ maxLen) (h5 : n ≤ 5)
    (hR : rtV f.data.toList = .tuple #[.agg (tcells n u), .bool true]) (hQ : rtV g.data.toList = .tuple #[.agg (tcells n v), .bool true])
    (eg : ∀ args w, (callFunc gf args).run Try.prog w = .ok (.enter gf args) w) (hv : Fv2 gf val) (hval : ∀ a b, a ≤ 1 → b ≤ 1 → val a b ≤ 1) (hu : ∀ s, u s ≤ 1) (hv1 : ∀ s, v s ≤ 1) :
    Calls Try.prog 34 #[.string f, .string g, .func (.func gf) #[] #[]] w fun e w' => e = .returned (.tuple #[.string ⟨(txt (2 ^ n) (fun s => val (u s) (v s))).toArray⟩, .bool true]) ∧ Below w.heap.size w w' := by
  have HV := Lib.hid hR
  have HV2 := Lib.hid hQ
  have HFv := Lib.hid hv
  have HVal := Lib.hid hval
  have HU := Lib.hid hu
  have HV1 := Lib.hid hv1
  have z1 := tcells_zero n u
  have z2 := tcells_zero n v
  have h32 := pow_le32 n h5
  clear hR hQ hv hval hu hv1
  go_enter Try.func34, Try.ntmps34
  go_wp2_with fail
  refine (readTable _ _ hs).mono ?_
  rw [HV.out]
  rintro e w1 ⟨rfl, hb1⟩
  have hF1 : w1.cell? ⟨w.heap.size, 0, none⟩ = some (.func (.func gf) #[] #[]) := by rw [hb1.cell (by simp), cell_of_row _ _ _ _ _ _ (heap_alloc_new _ _)]; rfl
  have hs0 : w.heap.size < w1.heap.size := by have := hb1.size; simp at this; omega
  have hB1 : Below w.heap.size w w1 := ((Below.refl _ _).alloc (Nat.le_refl _) _).trans (hb1.mono (by simp))
  clear hb1
  go_wp2_with (first | ((with_reducible refine wpList_alloc_row 46 _ zeroT ?_); (try simp only [Act.put, List.setIfInBounds_toArray, List.set_cons_succ, List.set_cons_zero, World.size_alloc, Nat.add_assoc, Nat.reduceAdd])) | ((with_reducible refine wpList_storeT_new 46 _ _ (n) _ (u) _ _ _ ?_ ?_ infoT ?_); (first | rfl | simp [Act.eval, Act.put]); rfl; (try simp only [Act.put, List.setIfInBounds_toArray, List.set_cons_succ, List.set_cons_zero, World.size_alloc, Nat.add_assoc, Nat.reduceAdd])) | fail)
  refine (readTable _ _ hs2).mono ?_
  rw [HV2.out]
  rintro e w2 ⟨rfl, hb2⟩
  have hF2 : w2.cell? ⟨w.heap.size, 0, none⟩ = some (.func (.func gf) #[] #[]) := by rw [hb2.cell (by simp; omega), World.cell?_alloc_lt _ _ _ (by show w.heap.size < w1.heap.size; omega)]; exact hF1
  have hTb : w2.heap[w1.heap.size]? = some (.cells (tcells n u) 46 (0, 0)) := (hb2.block _ (by simp)).trans (heap_alloc_new _ _)
  have hT : w2.cell? ⟨w1.heap.size, 0, none⟩ = some (.int .i64 (n : Int)) := by rw [cell_of_row _ _ _ _ _ _ hTb]; exact z1
  have hsz : w1.heap.size < w2.heap.size := by have := hb2.size; simp at this; omega
  have hT2 : ∀ o : Obj, (w2.alloc o).cell? ⟨w1.heap.size, 0, none⟩ = some (.int .i64 (n : Int)) := fun o => (World.cell?_alloc_lt _ _ _ (by show w1.heap.size < w2.heap.size; omega)).trans hT
  have hB2 : Below w.heap.size w w2 := (hB1.alloc hB1.size _).trans (hb2.mono (by have := hB1.size; simp; omega))
  have HTb := Lib.hid hTb
  have HF2 := Lib.hid hF2
  clear hb2 hB1 hF1 hTb hF2
  go_wp2_with (first | ((with_reducible refine wpList_alloc_row 46 _ zeroT ?_); (try simp only [Act.put, List.setIfInBounds_toArray, List.set_cons_succ, List.set_cons_zero, World.size_alloc, Nat.add_assoc, Nat.reduceAdd])) | ((with_reducible refine wpList_storeT_new 46 _ _ (n) _ (v) _ _ _ ?_ ?_ infoT ?_); (first | rfl | simp [Act.eval, Act.put]); rfl; (try simp only [Act.put, List.setIfInBounds_toArray, List.set_cons_succ, List.set_cons_zero, World.size_alloc, Nat.add_assoc, Nat.reduceAdd])) | fail)
  refine (each n (2 ^ n) _ _ (fun s => val (u s) (v s)) h5 rfl _ Try.call58 ?_).mono ?_
  · intro s hs w3 hb3
    refine joinTables1 gf val s w.heap.size n w1.heap.size n w2.heap.size u v w3 eg HFv.out (by omega) (HU.out s) (HV1.out s) ?_ ?_ ?_
    · rw [hb3.cell (by simp; omega), World.cell?_alloc_lt _ _ _ (by show w.heap.size < w2.heap.size; omega)]; exact HF2.out
    · exact (hb3.block _ (by simp; omega)).trans ((Below.heap_alloc _ _ _ hsz).trans HTb.out)
    · exact (hb3.block _ (by simp)).trans (heap_alloc_new _ _)
  rintro e w3 ⟨rfl, hb3⟩
  have hB : Below w.heap.size w w3 := (hB2.alloc hB2.size _).trans (hb3.mono (by have := hB2.size; simp; omega))
  clear hB2 hb3
  go_wp2_with fail
  refine (text n (2 ^ n) _ h5 rfl (fun s hs => by rw [upto_lt _ _ _ hs]; exact HVal.out _ _ (HU.out s) (HV1.out s)) _).mono ?_
  rintro e w4 ⟨rfl, hb4⟩
  go_wp2_with fail
  go_ret2
  refine ⟨?_, hB.trans (hb4.mono hB.size)⟩
  rw [txt_upto]; rfl

theorem joinTablesI (f g : ByteArray) (gf : Nat) (val : Nat → Nat → Nat) (w : World) (hs : f.size ≤ maxLen) (hs2 : g.size ≤ maxLen) (eg : ∀ args w, (callFunc gf args).run Try.prog w = .ok (.enter gf args) w) (hv : Fv2 gf val) (hval : ∀ a b, a ≤ 1 → b ≤ 1 → val a b ≤ 1) :
    Calls Try.prog 34 #[.string f, .string g, .func (.func gf) #[] #[]] w fun e w' => e = .returned (.tuple #[.string (strI (bothOk f.data.toList g.data.toList) (txt f.size (fun s => val (tv f.data.toList s) (tv g.data.toList s)))), .bool (bothOk f.data.toList g.data.toList)]) ∧ Below w.heap.size w w' := by
  cases h1 : isTab f.data.toList
  · have H : bothOk f.data.toList g.data.toList = false := by unfold bothOk; rw [h1]; rfl
    obtain ⟨m, v, q, hQ⟩ : ∃ n u p, rtV g.data.toList = .tuple #[.agg (tcells n u), .bool p] := by unfold rtV; split <;> exact ⟨_, _, _, rfl⟩
    rw [H]
    exact joinTables_no f g gf _ _ _ _ _ _ w hs hs2 (rt_no _ h1) hQ (fun h => by cases h)
  obtain ⟨n, g1, g5, hn, hlg, hz, hr⟩ := rt_yes _ h1
  cases h2 : isTab g.data.toList
  · have H : bothOk f.data.toList g.data.toList = false := by unfold bothOk; rw [h1, h2]; rfl
    rw [H]
    exact joinTables_no f g gf _ _ _ _ _ _ w hs hs2 hr (rt_no _ h2) (fun _ h => by cases h)
  obtain ⟨m, k1, k5, km, klg, kz, kr⟩ := rt_yes _ h2
  by_cases hl : n = m
  · subst hl
    have H : bothOk f.data.toList g.data.toList = true := by unfold bothOk; rw [h1, h2]; simp; exact hn.symm.trans km
    rw [H]
    refine (joinTables_yes f g gf n (tv f.data.toList) (tv g.data.toList) val w hs hs2 g5 hr kr eg hv hval (tv_le _ hz) (tv_le _ kz)).mono ?_
    rintro e w' ⟨rfl, hb⟩
    refine ⟨?_, hb⟩
    rw [strI_true, show (2 : Nat) ^ n = f.size from hn]
  · have H : bothOk f.data.toList g.data.toList = false := by
      unfold bothOk; rw [h1, h2]; simp
      exact fun e => hl (hlg.symm.trans ((congrArg lgN e).trans klg))
    rw [H]
    exact joinTables_no f g gf _ _ _ _ _ _ w hs hs2 hr kr (fun _ _ => hl)

theorem orTablesI (f g : ByteArray) (w : World) (hs : f.size ≤ maxLen) (hs2 : g.size ≤ maxLen) :
    Calls Try.prog 12 #[.string f, .string g] w fun e w' => e = .returned (.tuple #[.string (strI (bothOk f.data.toList g.data.toList) (orL f.data.toList g.data.toList)), .bool (bothOk f.data.toList g.data.toList)]) ∧ Below w.heap.size w w' := by
  go_enter Try.func12, Try.ntmps12
  go_wp2_with fail
  refine (joinTablesI f g _ (fun a b => max a b) _ hs hs2 Try.call35 orTables1 (fun a b ha hb => Nat.max_le.2 ⟨ha, hb⟩)).mono ?_
  rintro e w1 ⟨rfl, hb1⟩
  go_wp2_with fail
  go_ret2
  exact ⟨rfl, hb1⟩

end Go.Proofs.Ytknkhcaaadnaiaa
