/- Walks: the reference draws tables. -/
import Derived.Test.YtnplaiolencgjaaWd
import Derived.Test.YtnplaiolencgjaaWs3
namespace Go.Proofs.Ytnplaiolencgjaa
set_option linter.unusedVariables false
set_option linter.unusedSimpArgs false
open Go.RowKit

/-- What taking an element hands back. -/
def NumPost (xs : List Int) (g : Nat) (A : Option Addr) (n c P : Nat) (w : World) (e : Ending) (w' : World) : Prop :=
  ∃ x ∈ xs, e = .returned (.int .i64 x) ∧ w.grownBy w' (some g) ∧ Rd g A n c (P + 1) w'
def OfPost (xs : List ByteArray) (g : Nat) (A : Option Addr) (n c P : Nat) (w : World) (e : Ending) (w' : World) : Prop :=
  ∃ x ∈ xs, e = .returned (.string x) ∧ w.grownBy w' (some g) ∧ Rd g A n c (P + 1) w'

theorem numS (g : Nat) (A : Option Addr) (n c P : Nat) (b cap : Nat) (xs : List Int) (w : World) (h : Rd g A n c P w) (hP : P ≤ 1000000) (hb : b ≠ g) (h0 : 0 < xs.length) (hl : xs.length ≤ 1000) (hc : ∀ k x, xs[k]? = some x → w.cell? ⟨b, k, none⟩ = some (.int .i64 x)) :
    Calls Try.prog 51 #[.pointer (some ⟨g, 0, none⟩), .slice (some ⟨b, 0, none⟩) xs.length cap] w (NumPost xs g A n c P w) := by
  have HC := Lib.hid hc
  obtain ⟨L, hL⟩ : ∃ L, L = xs.length := ⟨_, rfl⟩
  rw [← hL] at h0 hl ⊢
  have HL := Lib.hid hL
  clear hc hL
  go_enter Try.func51, Try.ntmps51
  go_wp2_with fail
  refine (pickS g A n c P (L : Int) w h hP (by omega)).mono ?_
  rintro e w1 ⟨r, rfl, hr, _, hg, hR⟩
  have hrL : r < L := by have := hr (by omega); omega
  obtain ⟨x, hx⟩ : ∃ x, xs[r]? = some x := ⟨_, List.getElem?_eq_getElem (by rw [← HL.out]; exact hrL)⟩
  have hcell : w1.cell? ⟨b, r, none⟩ = some (.int .i64 x) := hg.cell (HC.out r x hx) (fun e => by injection e with e; exact hb e)
  have HX := Lib.hid hx
  clear hx hr
  go_wp2_with fail
  go_ret
  exact ⟨x, List.mem_of_getElem? HX.out, rfl, hg, hR⟩

theorem ofS (g : Nat) (A : Option Addr) (n c P : Nat) (b cap : Nat) (xs : List ByteArray) (w : World) (h : Rd g A n c P w) (hP : P ≤ 1000000) (hb : b ≠ g) (h0 : 0 < xs.length) (hl : xs.length ≤ 1000) (hc : ∀ k x, xs[k]? = some x → w.cell? ⟨b, k, none⟩ = some (.string x)) :
    Calls Try.prog 49 #[.pointer (some ⟨g, 0, none⟩), .slice (some ⟨b, 0, none⟩) xs.length cap] w (OfPost xs g A n c P w) := by
  have HC := Lib.hid hc
  obtain ⟨L, hL⟩ : ∃ L, L = xs.length := ⟨_, rfl⟩
  rw [← hL] at h0 hl ⊢
  have HL := Lib.hid hL
  clear hc hL
  go_enter Try.func49, Try.ntmps49
  go_wp2_with fail
  refine (pickS g A n c P (L : Int) w h hP (by omega)).mono ?_
  rintro e w1 ⟨r, rfl, hr, _, hg, hR⟩
  have hrL : r < L := by have := hr (by omega); omega
  obtain ⟨x, hx⟩ : ∃ x, xs[r]? = some x := ⟨_, List.getElem?_eq_getElem (by rw [← HL.out]; exact hrL)⟩
  have hcell : w1.cell? ⟨b, r, none⟩ = some (.string x) := hg.cell (HC.out r x hx) (fun e => by injection e with e; exact hb e)
  have HX := Lib.hid hx
  clear hx hr
  go_wp2_with fail
  go_ret
  exact ⟨x, List.mem_of_getElem? HX.out, rfl, hg, hR⟩

theorem grown_alloc (w : World) (g : Nat) (o : Obj) : w.grownBy (w.alloc o) (some g) := ⟨rfl, rfl, rfl, by simp, fun k hk _ => Below.heap_alloc w o k hk⟩
theorem Rd.alloc {g : Nat} {A : Option Addr} {n c P : Nat} {w : World} (h : Rd g A n c P w) (o : Obj) : Rd g A n c P (w.alloc o) := h.below ((Below.refl _ _).alloc (Nat.le_refl _) _)
theorem numN (g : Nat) (A : Option Addr) (n c P : Nat) (t : TypeId) (xs : List Int) (w : World) (h : Rd g A n c P w) (hP : P ≤ 1000000) (h0 : 0 < xs.length) (hl : xs.length ≤ 1000) :
    Calls Try.prog 51 #[.pointer (some ⟨g, 0, none⟩), .slice (some ⟨w.heap.size, 0, none⟩) xs.length xs.length] (w.alloc (.cells (xs.map (Value.int .i64)).toArray t)) (NumPost xs g A n c P w) := by
  refine (numS g A n c P w.heap.size xs.length xs _ (h.alloc _) hP (by have := h.lt; omega) h0 hl ?_).mono ?_
  · intro k x hx
    rw [cell_of_row _ _ _ _ _ _ (heap_alloc_new _ _)]
    simp [hx]
  · rintro e w' ⟨x, hx, he, hg, hR⟩
    exact ⟨x, hx, he, grown_trans (grown_alloc w g _) hg, hR⟩
theorem ofN (g : Nat) (A : Option Addr) (n c P : Nat) (t : TypeId) (xs : List ByteArray) (w : World) (h : Rd g A n c P w) (hP : P ≤ 1000000) (h0 : 0 < xs.length) (hl : xs.length ≤ 1000) :
    Calls Try.prog 49 #[.pointer (some ⟨g, 0, none⟩), .slice (some ⟨w.heap.size, 0, none⟩) xs.length xs.length] (w.alloc (.cells (xs.map Value.string).toArray t)) (OfPost xs g A n c P w) := by
  refine (ofS g A n c P w.heap.size xs.length xs _ (h.alloc _) hP (by have := h.lt; omega) h0 hl ?_).mono ?_
  · intro k x hx
    rw [cell_of_row _ _ _ _ _ _ (heap_alloc_new _ _)]
    simp [hx]
  · rintro e w' ⟨x, hx, he, hg, hR⟩
    exact ⟨x, hx, he, grown_trans (grown_alloc w g _) hg, hR⟩

theorem own_ne {w : World} {base g size n : Nat} {e : TypeId} {v : Value} {xs : List Value} (h : w.ownsRow base e size v n xs) (hg : g < base) : v.ownBlock = none ∨ v.ownBlock ≠ some g := by
  cases hv : v.ownBlock with
  | none => exact .inl rfl
  | some k => right; intro e; injection e with e; have := (h.lt k hv).1; omega
theorem Rd.belowB {g B : Nat} {A : Option Addr} {n c P : Nat} {w w' : World} (h : Rd g A n c P w) (hb : Below B w w') (hg : g < B) : Rd g A n c P w' := by
  obtain ⟨h1, h2, h3, h4, p, h5, h6⟩ := h
  refine ⟨h1, h2, h3, fun hne => ?_, p, h5, (hb.block g hg).trans h6⟩
  obtain ⟨ad, hA, hbk, hc⟩ := h4 hne
  refine ⟨ad, hA, hbk, fun k hk => ?_⟩
  obtain ⟨z, hz, hcell⟩ := hc k hk
  exact ⟨z, hz, (hb.cell (p := ad.add k) (by rw [addB_block]; omega)).trans hcell⟩
theorem bit_op (o : BinOp) (h : ∀ a < 2, ∀ b < 2, ∃ v < 2, bits o .i64 ((a : Nat) : Int) ((b : Nat) : Int) = ((v : Nat) : Int)) (a b : Nat) (ha : a ≤ 1) (hb : b ≤ 1) : ∃ v : Nat, v ≤ 1 ∧ bits o .i64 (a : Int) (b : Int) = (v : Int) := by
  obtain ⟨v, hv, e⟩ := h a (by omega) b (by omega)
  exact ⟨v, by omega, e⟩
theorem xor_all : ∀ a < 2, ∀ b < 2, ∃ v < 2, bits .xor .i64 ((a : Nat) : Int) ((b : Nat) : Int) = ((v : Nat) : Int) := by decide +kernel
theorem and_all : ∀ a < 2, ∀ b < 2, ∃ v < 2, bits .and .i64 ((a : Nat) : Int) ((b : Nat) : Int) = ((v : Nat) : Int) := by decide +kernel
theorem or_all : ∀ a < 2, ∀ b < 2, ∃ v < 2, bits .or .i64 ((a : Nat) : Int) ((b : Nat) : Int) = ((v : Nat) : Int) := by decide +kernel

theorem dig_snoc (zs : List Nat) (x : Nat) (h : ∀ z ∈ zs, z ≤ 1) (hx : x ≤ 1) : ∀ z ∈ zs ++ [x], z ≤ 1 := by
  intro z hz
  rcases List.mem_append.1 hz with h' | h'
  · exact h z h'
  · simp at h'; omega
/-- A list of digits of one's own. -/
def DigRow (w : World) (base : Nat) (v : Value) (k : Nat) : Prop := ∃ zs : List Nat, zs.length = k ∧ (∀ z ∈ zs, z ≤ 1) ∧ w.ownsRow base 3 1 v k (zs.map fun z => .int .i64 ((z : Nat) : Int))

/-- A text of at most m bytes, and of at least one. -/
def TextPost (m : Nat) (g : Nat) (A : Option Addr) (n c P : Nat) (w : World) (e : Ending) (w' : World) : Prop :=
  ∃ x : ByteArray, 0 < x.size ∧ x.size ≤ m ∧ e = .returned (.string x) ∧ w.grownBy w' (some g) ∧ Rd g A n c P w'

set_option maxHeartbeats 1000000 in
theorem l1DrawS (g : Nat) (A : Option Addr) (n c P N : Nat) (w : World) (h : Rd g A n c P w) (hP : P ≤ 900000) (h1 : 1 ≤ N) (h5 : N ≤ 5) :
    Calls Try.prog 52 #[.pointer (some ⟨g, 0, none⟩), .int .i64 (N : Int)] w (TextPost 32 g A n c (P + 36) w) := by
  have hp := wrap_pow N h5
  obtain ⟨m, hm⟩ : ∃ m, m = 2 ^ N := ⟨_, rfl⟩
  have hm32 := pow_le32 N h5
  have hm0 : 0 < m := by rw [hm]; exact Nat.two_pow_pos N
  rw [← hm] at hp hm32
  clear hm
  go_enter Try.func52, Try.ntmps52
  go_wp2_with (first | ((with_reducible refine wpList_empty 62 3 (.int .i64 0) 8 Try.underlying62 infoI ?_); intro w1 hown1 hg1 hz1; (try simp only [Act.put, List.setIfInBounds_toArray, List.set_cons_succ, List.set_cons_zero, World.size_alloc, Nat.add_assoc, Nat.reduceAdd])) | fail)
  have R1 := h.grown hg1 (fun k e => by cases e)
  have G1 : w.grownBy w1 (some g) := ⟨hg1.os, hg1.tape, hg1.output, hg1.size, fun k hk _ => hg1.block k hk (fun e => by cases e)⟩
  refine (pickS g A n c P (N : Int) _ R1 (by omega) (by omega)).mono ?_
  rintro e w2 ⟨a, rfl, ha, _, hg2, R2⟩
  have haN : a < N := by have := ha (by omega); omega
  have hown2 := hown1.kept hg2 (own_ne hown1 h.lt)
  have G2 := grown_trans G1 hg2
  clear ha
  go_wp2_with fail
  refine (pickS g A n c (P + 1) (N : Int) _ R2 (by omega) (by omega)).mono ?_
  rintro e w3 ⟨b, rfl, hb, _, hg3, R3⟩
  have hbN : b < N := by have := hb (by omega); omega
  have hown3 := hown2.kept hg3 (own_ne hown2 h.lt)
  have G3 := grown_trans G2 hg3
  clear hb
  go_wp2_with fail
  refine (pickS g A n c (P + 1 + 1) 7 _ R3 (by omega) (by omega)).mono ?_
  rintro e w4 ⟨kd, rfl, hk, _, hg4, R4⟩
  have hk7 : kd < 7 := by have := hk (by omega); omega
  have hown4 := hown3.kept hg4 (own_ne hown3 h.lt)
  have G4 := grown_trans G3 hg4
  clear hk
  go_wp2_with fail
  refine (pickS g A n c (P + 1 + 1 + 1) 2 _ R4 (by omega) (by omega)).mono ?_
  rintro e w5 ⟨sg, rfl, hs, _, hg5, R5⟩
  have hs2 : sg ≤ 1 := by have := hs (by omega); omega
  have hown5 := hown4.kept hg5 (own_ne hown4 h.lt)
  have G5 := grown_trans G4 hg5
  clear hs hown1 hown2 hown3 hown4 hg1 hg2 hg3 hg4 hg5 R1 R2 R3 R4 G1 G2 G3 G4
  go_wp2_with fail
  have hgw := h.lt
  go_loopw [5, 10] (fun v j wr => ∃ k : Nat, k ≤ m ∧ j = .int .i64 k ∧ Hid (DigRow wr w.heap.size v k) ∧ w.grownBy wr (some g) ∧ Rd g A n c (P + 4 + k) wr) (fun _ j _ => m - (intOf j).toNat)
  case atStart => exact ⟨0, Nat.zero_le _, rfl, ⟨[], rfl, (fun z hz => by cases hz), hown5⟩, G5, R5⟩
  case round =>
    clear hown5 G5 R5
    obtain ⟨k, hk, rfl, hD, hG, hR⟩ := hrel
    by_cases hlt : k < m
    · obtain ⟨zs, hzl, hz1, hown⟩ := hD.out
      have HZL := Lib.hid hzl
      have HZ1 := Lib.hid hz1
      obtain ⟨X, hX, eX⟩ := bit_op .xor xor_all (bitN k a) sg (bitN_le k a) hs2
      obtain ⟨V1, hV1, e1⟩ := bit_op .and and_all X (bitN k b) hX (bitN_le k b)
      obtain ⟨V2, hV2, e2⟩ := bit_op .or or_all X (bitN k b) hX (bitN_le k b)
      obtain ⟨V3, hV3, e3⟩ := bit_op .xor xor_all X (bitN k b) hX (bitN_le k b)
      have hsz := hG.size
      clear hD hzl hz1
      rcases (show kd = 0 ∨ kd = 1 ∨ kd = 2 ∨ kd = 3 ∨ kd = 4 ∨ 4 < kd by omega) with hq | hq | hq | hq | hq | hq
      · have q0 : ((kd : Int) == 0) = true := by rw [hq]; rfl
        clear hq
        go_wp2_with (first
          | (go_at_call 54; (with_reducible refine (l1BitS k a _ (by omega) (by omega)).mono ?_); rintro e w' ⟨rfl, rfl⟩)
          | (go_at_call 54; (with_reducible refine (l1BitS k b _ (by omega) (by omega)).mono ?_); rintro e w' ⟨rfl, rfl⟩)
          | ((with_reducible refine wpList_push 62 3 _ _ (w.heap.size) (k) 8 (u5) (.int .i64 (X : Int)) (.int .i64 0) (_) Try.underlying62 infoI rfl rfl rfl ?_ ?_ ?_ (hown) (hsz) (by omega) (by decide) ?_); rfl; rfl; rfl; intro v2 w2 hown2 hg2 hat2 hbel2; (try simp only [Act.put, List.setIfInBounds_toArray, List.set_cons_succ, List.set_cons_zero, World.size_alloc, Nat.add_assoc, Nat.reduceAdd]))
          | fail)
        clear q0
        go_roundw
        case rel => exact ⟨k + 1, by omega, by go_num, ⟨zs ++ [X], by simp [HZL.out], dig_snoc zs X HZ1.out (by omega), by simpa using hown2⟩, grown_below hG hbel2 (Nat.le_refl _), (hR.belowB hbel2 hgw).mono (by omega)⟩
        case measure => simp [intOf]; omega
      · have q0 : ((kd : Int) == 0) = false := by rw [hq]; rfl
        have q1 : ((kd : Int) == 1) = true := by rw [hq]; rfl
        clear hq
        go_wp2_with (first
          | (go_at_call 54; (with_reducible refine (l1BitS k a _ (by omega) (by omega)).mono ?_); rintro e w' ⟨rfl, rfl⟩)
          | (go_at_call 54; (with_reducible refine (l1BitS k b _ (by omega) (by omega)).mono ?_); rintro e w' ⟨rfl, rfl⟩)
          | ((with_reducible refine wpList_push 62 3 _ _ (w.heap.size) (k) 8 (u5) (.int .i64 (V1 : Int)) (.int .i64 0) (_) Try.underlying62 infoI rfl rfl rfl ?_ ?_ ?_ (hown) (hsz) (by omega) (by decide) ?_); rfl; rfl; rfl; intro v2 w2 hown2 hg2 hat2 hbel2; (try simp only [Act.put, List.setIfInBounds_toArray, List.set_cons_succ, List.set_cons_zero, World.size_alloc, Nat.add_assoc, Nat.reduceAdd]))
          | fail)
        clear q0 q1
        go_roundw
        case rel => exact ⟨k + 1, by omega, by go_num, ⟨zs ++ [V1], by simp [HZL.out], dig_snoc zs V1 HZ1.out (by omega), by simpa using hown2⟩, grown_below hG hbel2 (Nat.le_refl _), (hR.belowB hbel2 hgw).mono (by omega)⟩
        case measure => simp [intOf]; omega
      · have q0 : ((kd : Int) == 0) = false := by rw [hq]; rfl
        have q1 : ((kd : Int) == 1) = false := by rw [hq]; rfl
        have q2 : ((kd : Int) == 2) = true := by rw [hq]; rfl
        clear hq
        go_wp2_with (first
          | (go_at_call 54; (with_reducible refine (l1BitS k a _ (by omega) (by omega)).mono ?_); rintro e w' ⟨rfl, rfl⟩)
          | (go_at_call 54; (with_reducible refine (l1BitS k b _ (by omega) (by omega)).mono ?_); rintro e w' ⟨rfl, rfl⟩)
          | ((with_reducible refine wpList_push 62 3 _ _ (w.heap.size) (k) 8 (u5) (.int .i64 (V2 : Int)) (.int .i64 0) (_) Try.underlying62 infoI rfl rfl rfl ?_ ?_ ?_ (hown) (hsz) (by omega) (by decide) ?_); rfl; rfl; rfl; intro v2 w2 hown2 hg2 hat2 hbel2; (try simp only [Act.put, List.setIfInBounds_toArray, List.set_cons_succ, List.set_cons_zero, World.size_alloc, Nat.add_assoc, Nat.reduceAdd]))
          | fail)
        clear q0 q1 q2
        go_roundw
        case rel => exact ⟨k + 1, by omega, by go_num, ⟨zs ++ [V2], by simp [HZL.out], dig_snoc zs V2 HZ1.out (by omega), by simpa using hown2⟩, grown_below hG hbel2 (Nat.le_refl _), (hR.belowB hbel2 hgw).mono (by omega)⟩
        case measure => simp [intOf]; omega
      · have q0 : ((kd : Int) == 0) = false := by rw [hq]; rfl
        have q1 : ((kd : Int) == 1) = false := by rw [hq]; rfl
        have q2 : ((kd : Int) == 2) = false := by rw [hq]; rfl
        have q3 : ((kd : Int) == 3) = true := by rw [hq]; rfl
        clear hq
        go_wp2_with (first
          | (go_at_call 54; (with_reducible refine (l1BitS k a _ (by omega) (by omega)).mono ?_); rintro e w' ⟨rfl, rfl⟩)
          | (go_at_call 54; (with_reducible refine (l1BitS k b _ (by omega) (by omega)).mono ?_); rintro e w' ⟨rfl, rfl⟩)
          | ((with_reducible refine wpList_push 62 3 _ _ (w.heap.size) (k) 8 (u5) (.int .i64 (V3 : Int)) (.int .i64 0) (_) Try.underlying62 infoI rfl rfl rfl ?_ ?_ ?_ (hown) (hsz) (by omega) (by decide) ?_); rfl; rfl; rfl; intro v2 w2 hown2 hg2 hat2 hbel2; (try simp only [Act.put, List.setIfInBounds_toArray, List.set_cons_succ, List.set_cons_zero, World.size_alloc, Nat.add_assoc, Nat.reduceAdd]))
          | fail)
        clear q0 q1 q2 q3
        go_roundw
        case rel => exact ⟨k + 1, by omega, by go_num, ⟨zs ++ [V3], by simp [HZL.out], dig_snoc zs V3 HZ1.out (by omega), by simpa using hown2⟩, grown_below hG hbel2 (Nat.le_refl _), (hR.belowB hbel2 hgw).mono (by omega)⟩
        case measure => simp [intOf]; omega
      · have q0 : ((kd : Int) == 0) = false := by rw [hq]; rfl
        have q1 : ((kd : Int) == 1) = false := by rw [hq]; rfl
        have q2 : ((kd : Int) == 2) = false := by rw [hq]; rfl
        have q3 : ((kd : Int) == 3) = false := by rw [hq]; rfl
        have q4 : ((kd : Int) == 4) = true := by rw [hq]; rfl
        clear hq
        go_wp2_with (first
          | (go_at_call 54; (with_reducible refine (l1BitS k a _ (by omega) (by omega)).mono ?_); rintro e w' ⟨rfl, rfl⟩)
          | (go_at_call 54; (with_reducible refine (l1BitS k b _ (by omega) (by omega)).mono ?_); rintro e w' ⟨rfl, rfl⟩)
          | ((with_reducible refine wpList_push 62 3 _ _ (w.heap.size) (k) 8 (u5) (.int .i64 (sg : Int)) (.int .i64 0) (_) Try.underlying62 infoI rfl rfl rfl ?_ ?_ ?_ (hown) (hsz) (by omega) (by decide) ?_); rfl; rfl; rfl; intro v2 w2 hown2 hg2 hat2 hbel2; (try simp only [Act.put, List.setIfInBounds_toArray, List.set_cons_succ, List.set_cons_zero, World.size_alloc, Nat.add_assoc, Nat.reduceAdd]))
          | fail)
        clear q0 q1 q2 q3 q4
        go_roundw
        case rel => exact ⟨k + 1, by omega, by go_num, ⟨zs ++ [sg], by simp [HZL.out], dig_snoc zs sg HZ1.out (by omega), by simpa using hown2⟩, grown_below hG hbel2 (Nat.le_refl _), (hR.belowB hbel2 hgw).mono (by omega)⟩
        case measure => simp [intOf]; omega
      · have q0 : ((kd : Int) == 0) = false := by simp; omega
        have q1 : ((kd : Int) == 1) = false := by simp; omega
        have q2 : ((kd : Int) == 2) = false := by simp; omega
        have q3 : ((kd : Int) == 3) = false := by simp; omega
        have q4 : ((kd : Int) == 4) = false := by simp; omega
        clear hq
        go_wp2_with (first
          | (go_at_call 54; (with_reducible refine (l1BitS k a _ (by omega) (by omega)).mono ?_); rintro e w' ⟨rfl, rfl⟩)
          | (go_at_call 54; (with_reducible refine (l1BitS k b _ (by omega) (by omega)).mono ?_); rintro e w' ⟨rfl, rfl⟩)
          | fail)
        refine (pickS g A n c (P + 4 + k) 2 _ hR (by omega) (by omega)).mono ?_
        rintro e w6 ⟨V, rfl, hV, _, hg6, R6⟩
        have hV2 : V ≤ 1 := by have := hV (by omega); omega
        have hown6 := hown.kept hg6 (own_ne hown hgw)
        have G6 := grown_trans hG hg6
        have hsz6 := G6.size
        clear hV hg6 hown hG hR
        go_wp2_with (first
          | ((with_reducible refine wpList_push 62 3 _ _ (w.heap.size) (k) 8 (u5) (.int .i64 (V : Int)) (.int .i64 0) (_) Try.underlying62 infoI rfl rfl rfl ?_ ?_ ?_ (hown6) (hsz6) (by omega) (by decide) ?_); rfl; rfl; rfl; intro v2 w2 hown2 hg2 hat2 hbel2; (try simp only [Act.put, List.setIfInBounds_toArray, List.set_cons_succ, List.set_cons_zero, World.size_alloc, Nat.add_assoc, Nat.reduceAdd]))
          | fail)
        clear q0 q1 q2 q3 q4
        go_roundw
        case rel => exact ⟨k + 1, by omega, by go_num, ⟨zs ++ [V], by simp [HZL.out], dig_snoc zs V HZ1.out hV2, by simpa using hown2⟩, grown_below G6 hbel2 (Nat.le_refl _), (R6.belowB hbel2 hgw).mono (by omega)⟩
        case measure => simp [intOf]; omega
    · obtain rfl : k = m := by omega
      obtain ⟨zs, hzl, hz1, hown⟩ := hD.out
      have HZL := Lib.hid hzl
      have HZ1 := Lib.hid hz1
      have hrow := Row.of_own hown
      clear hD hzl hz1 hown
      go_wp2_with fail
      refine (l1TextS zs _ _ HZ1.out (by rw [HZL.out]; omega) hrow).mono ?_
      rintro e w7 ⟨rfl, hb7⟩
      have HS := Lib.hid (show (⟨(digs zs).toArray⟩ : ByteArray).size = k by show (digs zs).toArray.size = k; simp [digs_length, HZL.out])
      go_wp2_with fail
      go_ret
      exact ⟨_, by rw [HS.out]; exact hm0, by rw [HS.out]; exact hm32, rfl, grown_below hG hb7 hG.size, (hR.below hb7).mono (by omega)⟩

end Go.Proofs.Ytnplaiolencgjaa
