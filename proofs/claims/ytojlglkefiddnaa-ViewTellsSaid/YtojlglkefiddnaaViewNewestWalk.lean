/-
  gleanerlaw18.ViewNewest: the walk.
-/
import Derived.Test.YtojlglkefiddnaaViewRd
namespace Go.Proofs.Ytojlglkefiddnaa
open Go.RowKit
set_option linter.unusedVariables false
set_option linter.unusedSimpArgs false

theorem num_any (x : Int) (w : World) : Calls Try.prog 11 #[.int .i64 x] w fun e w2 => e = .returned (.int .i64 x) ∧ w = w2 := by
  go_enter Try.func11, Try.ntmps11
  go_wp2_with fail
  go_ret
  exact ⟨rfl, rfl⟩
theorem kept_three : kept (fun m => inI [1] m.1) (firstM 3) = [(0, 1), (2, 1)] := by decide
theorem bad_three : badB 1 (firstM 3) [1] = false := by decide

set_option maxRecDepth 100000 in
set_option maxHeartbeats 600000 in
theorem view_alive (w : World) : Calls Try.prog 8 #[] w fun e w2 => e = .returned (.bool true) ∧ Chg Non w w2 := by
  go_enter Try.func8, Try.ntmps8
  go_wp2_with fail
  refine (first_yes _ 3 (by decide) (by decide)).mono ?_
  rintro e w1 ⟨A, c, rfl, hwin, hge, hc1⟩
  have hC1 : Chg Non w ((w1.alloc (.cells #[.int .i64 1, .slice A 3 c] 26)).alloc (.cells #[.int .i64 1] 3)) := (hc1.alloc _).alloc _
  have hr1 := (hwin.rds.non ((Chg.refl Non w1).alloc (.cells #[.int .i64 1, .slice A 3 c] 26))).non ((Chg.refl Non _).alloc (.cells #[.int .i64 1] 3))
  have hr2 : Rds ((w1.alloc (.cells #[.int .i64 1, .slice A 3 c] 26)).alloc (.cells #[.int .i64 1] 3)) 1 (some ⟨w1.heap.size + 1, 0, none⟩) 1 (iv [1]) := by
    have := Rds.one (w1.alloc (.cells #[.int .i64 1, .slice A 3 c] 26)) (.int .i64 1) 3
    simpa [iv] using this
  clear hc1 hge hwin
  go_wp2_with fail
  refine (without_yes _ 1 A c (firstM 3) _ 1 1 [1] hr1 (by decide) hr2 (by decide) bad_three (by decide)).mono ?_
  rw [kept_three]
  rintro e w2 ⟨A2, c2, rfl, hwin2, _, hc2⟩
  have hC2 := hC1.non hc2
  obtain ⟨ad, m, rfl, hm, hm0, _⟩ := hwin2.rds.getM (k := 1) (by decide)
  obtain rfl : m = (2, 1) := by simpa using hm.symm
  have a0 : w2.cell? ⟨ad.block, ad.off + 2, none⟩ = some (.int .i64 2) := by have := hm0; rw [show 1 * 2 = 1 + 1 from rfl, fld_add] at this; exact this
  have hlt := World.block_lt_of_cell? w2 _ a0
  clear hwin2 hc2 hC1 hr1 hr2 hm hm0
  go_wp2_with fail
  refine (num_any _ _).mono ?_
  rintro e w9 ⟨rfl, rfl⟩
  go_wp2_with fail
  refine (num_any _ _).mono ?_
  rintro e w9 ⟨rfl, rfl⟩
  go_wp2_with fail
  go_ret
  exact ⟨rfl, hC2.alloc _⟩

set_option maxRecDepth 100000 in
set_option maxHeartbeats 400000 in
theorem sameView_same (w : World) (ep : Int) (A : Option Addr) (n c : Nat) (B : Option Addr) (d : Nat) (L : List Mb) (h1 : Rds w 2 A n (mv L)) (h2 : Rds w 2 B n (mv L)) (hn : n ≤ 9223372036854775807) :
    Calls Try.prog 16 #[.agg #[.int .i64 ep, .slice A n c], .agg #[.int .i64 ep, .slice B n d]] w fun e w2 => e = .returned (.bool true) ∧ Chg Non w w2 := by
  obtain ⟨w1, hw1⟩ : ∃ w1, (w.alloc (.cells #[.int .i64 ep, .slice A n c] 26)).alloc (.cells #[.int .i64 ep, .slice B n d] 26) = w1 := ⟨_, rfl⟩
  have hC : Chg Non w w1 := hw1 ▸ ((Chg.refl _ _).alloc _).alloc _
  have hb1 : Blk w1 w.heap.size 26 #[.int .i64 ep, .slice A n c] := hw1 ▸ (Blk.new w _ _).alloc _
  have hb2 : Blk w1 (w.heap.size + 1) 26 #[.int .i64 ep, .slice B n d] := by
    have := Blk.new (w.alloc (.cells #[.int .i64 ep, .slice A n c] 26)) 26 #[.int .i64 ep, .slice B n d]
    rw [hw1, World.size_alloc] at this
    exact this
  have H1 := Lib.hid (h1.non hC)
  have H2 := Lib.hid (h2.non hC)
  have c0 := hb1.cell 0
  have c1 := hb1.cell 1
  have d0 := hb2.cell 0
  have d1 := hb2.cell 1
  simp only [List.getElem?_toArray, List.getElem?_cons_zero, List.getElem?_cons_succ] at c0 c1 d0 d1
  have q := eq_mb
  clear h1 h2
  go_enter Try.func16, Try.ntmps16
  go_wp2_with fail
  clear hw1 c0 c1 d0 d1
  go_loopw [5] (fun i wr => ∃ k : Nat, k ≤ n ∧ i = .int .i64 k ∧ Chg Non w1 wr) (fun i _ => n - (intOf i).toNat)
  case atStart => exact ⟨0, Nat.zero_le _, rfl, Chg.refl _ _⟩
  case round =>
    obtain ⟨k, hk, rfl, hC2⟩ := hrel
    have c1 := (hb1.non hC2).cell 1
    have d1 := (hb2.non hC2).cell 1
    simp only [List.getElem?_toArray, List.getElem?_cons_zero, List.getElem?_cons_succ] at c1 d1
    by_cases hlt : k < n
    · obtain ⟨ad, m, rfl, hx, hc0, hc1⟩ := H1.out.getM hlt
      obtain ⟨ad2, m2, rfl, hx2, hd0, hd1⟩ := H2.out.getM hlt
      obtain rfl : m2 = m := by rw [hx] at hx2; exact (Option.some.inj hx2).symm
      have a0 := hC2.cell hc0 id
      have a1 := hC2.cell hc1 id
      have b0 := hC2.cell hd0 id
      have b1 := hC2.cell hd1 id
      have i1 : (0 : Int) ≤ (k : Int) := by omega
      have i2 : (k : Int) < n := by omega
      clear hc0 hc1 hd0 hd1 hx hx2
      go_wp2_with fail
      go_quiet (fail)
      go_wp2_with fail
      go_roundw
      case rel => exact ⟨k + 1, by omega, by go_num, hC2.drewN _⟩
      case measure => simp [intOf]; omega
    · go_wp2_with fail
      go_ret
      exact ⟨rfl, hC.non hC2⟩

theorem big_any (w : World) (ep : Int) (A : Option Addr) (n c : Nat) : Calls Try.prog 15 #[.agg #[.int .i64 ep, .slice A n c]] w fun e w2 => e = .returned (.bool (decide (200 < n))) ∧ Chg Non w w2 := by
  by_cases h : 200 < n
  · have Hd := Lib.hid (decide_eq_true h)
    go_enter Try.func15, Try.ntmps15
    go_wp2_with fail
    go_ret
    exact ⟨by rw [Hd.out]; simp; omega, (Chg.refl _ _).alloc _⟩
  · have Hd := Lib.hid (decide_eq_false h)
    go_enter Try.func15, Try.ntmps15
    go_wp2_with fail
    go_ret
    exact ⟨by rw [Hd.out]; simp; omega, (Chg.refl _ _).alloc _⟩

/-- The newer of two, the first where both are as new. -/
def newer (o v : Vw) : Vw := if o.ep < v.ep then v else o
theorem Rds.getV {w : World} {A : Option Addr} {n : Nat} {X : List Vw} (h : Rds w 2 A n (X.flatMap cellV)) {k : Nat} (hk : k < n) :
    ∃ ad v, A = some ad ∧ X[k]? = some v ∧ w.cell? (ad.add (k * 2)) = some (.int .i64 v.ep) ∧ w.cell? ⟨(ad.add (k * 2)).block, (ad.add (k * 2)).off + 1, none⟩ = some (.slice v.A v.n v.c) := by
  obtain ⟨ad, m, h1, h2, h3, h4⟩ := h.getN cellV_len (by decide) hk
  exact ⟨ad, m, h1, h2, h3 _ rfl, h4 0 _ rfl⟩
theorem newer_step {X : List Vw} {k : Nat} {v : Vw} (h : X[k]? = some v) (b : Vw) : (X.take (k + 1)).foldl newer b = newer ((X.take k).foldl newer b) v := by
  rw [List.take_add_one, h, List.foldl_append]
  rfl
theorem newer_mem : ∀ (X : List Vw) (b : Vw), X.foldl newer b = b ∨ X.foldl newer b ∈ X
  | [], b => .inl rfl
  | x :: X, b => by
    rw [List.foldl_cons]
    rcases newer_mem X (newer b x) with h | h
    · rw [h]
      unfold newer
      split
      · exact .inr (by simp)
      · exact .inl rfl
    · exact .inr (by simp [h])

set_option maxRecDepth 100000 in
set_option maxHeartbeats 1000000 in
theorem newest_any (w : World) (A : Option Addr) (n c : Nat) (X : List Vw) (x : Vw) (h : Rds w 2 A n (X.flatMap cellV)) (hok : ∀ v ∈ X, v.ok w) (hx : X[0]? = some x) (hn : n ≤ 1000) (hsm : ∀ v ∈ X, v.n ≤ 1000) :
    Calls Try.prog 17 #[.slice A n c] w fun e w2 => ∃ A2 c2, e = .returned (.agg #[.int .i64 (X.foldl newer x).ep, .slice A2 (X.foldl newer x).n c2]) ∧ Rds w2 2 A2 (X.foldl newer x).n (mv (X.foldl newer x).L) ∧ Chg Non w w2 := by
  have Hr := Lib.hid h
  have hnl := flat_eq cellV_len (by decide) h
  have h0 : 0 < n := by have := (List.getElem?_eq_some_iff.1 hx).1; omega
  have hne : ((n : Int) == 0) = false := beq_eq_false_iff_ne.2 (by omega)
  obtain ⟨w1, hw1⟩ : ∃ w1, w.alloc (.cells #[.int .i64 0, .slice none 0 0] 26) = w1 := ⟨_, rfl⟩
  have hC1 : Chg Non w w1 := hw1 ▸ (Chg.refl _ _).alloc _
  have hbR1 : Blk w1 w.heap.size 26 #[.int .i64 0, .slice none 0 0] := hw1 ▸ Blk.new _ _ _
  have hsz1 : w1.heap.size = w.heap.size + 1 := by rw [← hw1]; simp
  obtain ⟨ad, v0, rfl, hv0, hc0, hc1⟩ := Hr.out.getV h0
  obtain rfl : v0 = x := by rw [hx] at hv0; exact (Option.some.inj hv0).symm
  have a0 : w1.cell? ad = some (.int .i64 v0.ep) := by have := hC1.cell hc0 id; simpa [Addr.add] using this
  have a1 : w1.cell? ⟨ad.block, ad.off + 1, none⟩ = some (.slice v0.A v0.n v0.c) := by have := hC1.cell hc1 id; simpa [Addr.add] using this
  have hlt0 := World.block_lt_of_cell? w1 _ a0
  obtain ⟨w2, hw2⟩ : ∃ w2, w1.alloc (.cells #[.int .i64 v0.ep, .slice v0.A v0.n v0.c] 26) = w2 := ⟨_, rfl⟩
  have hC2 : Chg Non w w2 := hw2 ▸ hC1.alloc _
  have hbR2 : Blk w2 w.heap.size 26 #[.int .i64 0, .slice none 0 0] := hw2 ▸ hbR1.alloc _
  have hbO2 : Blk w2 (w.heap.size + 1) 26 #[.int .i64 v0.ep, .slice v0.A v0.n v0.c] := by
    have := Blk.new w1 26 #[.int .i64 v0.ep, .slice v0.A v0.n v0.c]
    rw [hw2, hsz1] at this
    exact this
  have Hok := Lib.hid hok
  have Hsm := Lib.hid hsm
  have Hx := Lib.hid hx
  have Hsz := Lib.hid hsz1
  have Hnl := Lib.hid hnl
  clear hok hsm hx hv0 hc0 hc1 h hbR1 hC1 hnl
  go_enter Try.func17, Try.ntmps17
  go_wp2_with fail
  clear hw1 hw2 a0 a1 hlt0
  go_loopw [15] (fun i wr => ∃ (k : Nat) (b : Vw), k ≤ n ∧ i = .int .i64 k ∧ Hid (b = (X.take k).foldl newer v0) ∧ Blk wr (w.heap.size + 1) 26 #[.int .i64 b.ep, .slice b.A b.n b.c] ∧ Blk wr w.heap.size 26 #[.int .i64 0, .slice none 0 0] ∧ Chg Non w wr) (fun i _ => n - (intOf i).toNat)
  case atStart => exact ⟨0, v0, Nat.zero_le _, rfl, rfl, hbO2, hbR2, hC2⟩
  case round =>
    clear hbO2 hbR2 hC2
    obtain ⟨k, b, hk, rfl, hb, hbO, hbR, hC⟩ := hrel
    have o0 := hbO.cell 0
    have o1 := hbO.cell 1
    have of0 := hbO.frozen 0
    have of1 := hbO.frozen 1
    simp only [List.getElem?_toArray, List.getElem?_cons_zero, List.getElem?_cons_succ] at o0 o1
    by_cases hlt : k < n
    · obtain ⟨ad2, v, hA, hv, hc0, hc1⟩ := Hr.out.getV hlt
      cases hA
      have a0 := hC.cell hc0 id
      have a1 := hC.cell hc1 id
      have hl0 := World.block_lt_of_cell? wr _ a0
      have hbb : w.heap.size + 1 < wr.heap.size := hbO.lt
      have hst := newer_step hv v0
      rw [← hb.out] at hst
      have hCa := hC.alloc (.cells #[.int .i64 v.ep, .slice v.A v.n v.c] 26)
      have hbO2 := hbO.alloc (.cells #[.int .i64 v.ep, .slice v.A v.n v.c] 26)
      have hbR2 := hbR.alloc (.cells #[.int .i64 v.ep, .slice v.A v.n v.c] 26)
      clear hc0 hc1 hv hb
      by_cases hlt2 : b.ep < v.ep
      · have hst2 : Hid (v = (X.take (k + 1)).foldl newer v0) := by show _ = _; rw [hst]; unfold newer; rw [if_pos hlt2]
        have hbO3 := (hbO.put 0 (.int .i64 v.ep)).put 1 (.slice v.A v.n v.c)
        simp only [List.setIfInBounds_toArray, List.set_cons_succ, List.set_cons_zero] at hbO3
        have hS : Chg (fun b => b = w.heap.size + 1) wr ((wr.setCell ⟨w.heap.size + 1, 0, none⟩ (.int .i64 v.ep)).setCell ⟨w.heap.size + 1, 1, none⟩ (.slice v.A v.n v.c)) := ((Chg.refl _ _).set1 0 _).set1 1 _
        have hbR3 := (hbR.chg hS (fun e => by have e : w.heap.size = w.heap.size + 1 := e; omega)).alloc (.cells #[.int .i64 v.ep, .slice v.A v.n v.c] 26)
        have hC3 := (hC.trans2 hS (fun b e => .inr (by have e : b = w.heap.size + 1 := e; omega))).alloc (.cells #[.int .i64 v.ep, .slice v.A v.n v.c] 26)
        have hbO3 := hbO3.alloc (.cells #[.int .i64 v.ep, .slice v.A v.n v.c] 26)
        clear hst hS hbO2 hbR2 hCa hbO hbR hC
        go_wp2_with fail
        go_roundw
        case rel => exact ⟨k + 1, v, by omega, by go_num, hst2, hbO3, hbR3, hC3⟩
        case measure => simp [intOf]; omega
      · have hst2 : Hid (b = (X.take (k + 1)).foldl newer v0) := by show _ = _; rw [hst]; unfold newer; rw [if_neg hlt2]
        clear hst hbO hbR hC
        go_wp2_with fail
        go_roundw
        case rel => exact ⟨k + 1, b, by omega, by go_num, hst2, hbO2, hbR2, hCa⟩
        case measure => simp [intOf]; omega
    · have hbX : b = X.foldl newer v0 := by rw [hb.out, List.take_of_length_le (by have := Hnl.out; omega)]
      have hmem : b ∈ X := by
        have h0m : v0 ∈ X := List.mem_of_getElem? Hx.out
        rcases newer_mem X v0 with h | h
        · rw [hbX, h]; exact h0m
        · rw [hbX]; exact h
      have hbok := Hok.out b hmem
      have hbn := Hsm.out b hmem
      have HbX := Lib.hid hbX
      have hrd := hbok.rds.non hC
      clear hbX hmem hb hbok
      go_wp2_with fail
      refine (cloneM_any b.A b.n b.c _ _ hrd (mv_one _) (by omega)).mono ?_
      rintro e w3 ⟨v3, rfl, hown, hc3⟩
      obtain ⟨A5, c5, rfl, _, _, hr5, _⟩ := hown.open_
      have hbO3 := hbO.non hc3
      have hbR3 := hbR.non hc3
      have hC3 := hC.non hc3
      have p0 := hbO3.cell 0
      have p1 := hbO3.cell 1
      have pf1 := hbO3.frozen 1
      have r0 := hbR3.cell 0
      have r1 := hbR3.cell 1
      have rf0 := hbR3.frozen 0
      have rf1 := hbR3.frozen 1
      simp only [List.getElem?_toArray, List.getElem?_cons_zero, List.getElem?_cons_succ] at p0 p1 r0 r1
      obtain ⟨w4, hw4⟩ : ∃ w4, w3.setCell ⟨w.heap.size + 1, 1, none⟩ (.slice A5 b.n c5) = w4 := ⟨_, rfl⟩
      have hS4 : Chg (fun b => b = w.heap.size + 1) w3 w4 := hw4 ▸ (Chg.refl _ _).set1 1 _
      have hbO4 : Blk w4 (w.heap.size + 1) 26 #[.int .i64 b.ep, .slice A5 b.n c5] := by
        have := hbO3.put 1 (.slice A5 b.n c5)
        simp only [List.setIfInBounds_toArray, List.set_cons_succ, List.set_cons_zero] at this
        rw [hw4] at this
        exact this
      have hbR4 := hbR3.chg hS4 (fun e => by have e : w.heap.size = w.heap.size + 1 := e; omega)
      have hC4 := hC3.trans2 hS4 (fun b e => .inr (by have e : b = w.heap.size + 1 := e; omega))
      have hown4 := hown.chg hS4 (fun b hb e => by have := (hown.lt hb).1; have e : b = w.heap.size + 1 := e; have := hbO.lt; omega)
      have s0 := hbO4.cell 0
      have s1 := hbO4.cell 1
      have t0 := hbR4.cell 0
      have t1 := hbR4.cell 1
      have tf0 := hbR4.frozen 0
      have tf1 := hbR4.frozen 1
      simp only [List.getElem?_toArray, List.getElem?_cons_zero, List.getElem?_cons_succ] at s0 s1 t0 t1
      have hbR5 := (hbR4.put 0 (.int .i64 b.ep)).put 1 (.slice A5 b.n c5)
      simp only [List.setIfInBounds_toArray, List.set_cons_succ, List.set_cons_zero] at hbR5
      have u0 := hbR5.cell 0
      have u1 := hbR5.cell 1
      simp only [List.getElem?_toArray, List.getElem?_cons_zero, List.getElem?_cons_succ] at u0 u1
      have hS5 : Chg (fun b => b = w.heap.size) w4 ((w4.setCell ⟨w.heap.size, 0, none⟩ (.int .i64 b.ep)).setCell ⟨w.heap.size, 1, none⟩ (.slice A5 b.n c5)) := ((Chg.refl _ _).set1 0 _).set1 1 _
      have hC5 := hC4.trans2 hS5 (fun b e => .inr (by have e : b = w.heap.size := e; omega))
      have hr5 := (hown4.chg hS5 (fun b hb e => by have := (hown.lt hb).1; have e : b = w.heap.size := e; have := hbR.lt; omega)).rds
      clear hbO3 hbR3 hC3 hown hown4 hc3 hS4 hS5 hbO4 hbR4 hC4 hbR5 hbO hbR hC o0 o1 of0 of1 hrd
      go_wp2_with fail
      exact bodyPost_ret (v := .agg #[.int .i64 b.ep, .slice A5 b.n c5]) (by simp [results, Try.results17, go_sem, u0, u1]) rfl ⟨A5, c5, by rw [← HbX.out], by rw [← HbX.out]; exact hr5, hC5⟩

set_option maxRecDepth 100000 in
set_option maxHeartbeats 1000000 in
theorem refNewest_any (w : World) (A : Option Addr) (n c : Nat) (X : List Vw) (x : Vw) (h : Rds w 2 A n (X.flatMap cellV)) (hx : X[0]? = some x) (hn : n ≤ 1000) :
    Calls Try.prog 18 #[.slice A n c] w fun e w2 => e = .returned (.agg #[.int .i64 (X.foldl newer x).ep, .slice (X.foldl newer x).A (X.foldl newer x).n (X.foldl newer x).c]) ∧ Chg Non w w2 := by
  have hnl := flat_eq cellV_len (by decide) h
  have h0 : 0 < n := by have := (List.getElem?_eq_some_iff.1 hx).1; omega
  have hne : ((n : Int) == 0) = false := beq_eq_false_iff_ne.2 (by omega)
  obtain ⟨w1, hw1⟩ : ∃ w1, w.alloc (.cells #[.int .i64 0, .slice none 0 0] 26) = w1 := ⟨_, rfl⟩
  have hC1 : Chg Non w w1 := hw1 ▸ (Chg.refl _ _).alloc _
  have hbR1 : Blk w1 w.heap.size 26 #[.int .i64 0, .slice none 0 0] := hw1 ▸ Blk.new _ _ _
  have Hr := Lib.hid (h.non hC1)
  have Hx := Lib.hid hx
  have Hnl := Lib.hid hnl
  have hX1 : X.take 1 = [x] := by
    cases X with
    | nil => simp at hx
    | cons y r => simp at hx; simp [hx]
  have hb0 : (X.take 1).foldl newer x = x := by rw [hX1]; simp [newer]
  have Hb0 := Lib.hid hb0
  clear h hx hnl hX1 hb0
  go_enter Try.func18, Try.ntmps18
  go_wp2_with fail
  clear hw1
  go_loopw [3, 4] (fun kk i wr => ∃ (k j : Nat) (b : Vw), 1 ≤ k ∧ k ≤ n ∧ j < n ∧ i = .int .i64 k ∧ kk = .int .i64 j ∧ Hid (X[j]? = some b) ∧ Hid (b = (X.take k).foldl newer x) ∧ Chg Non w1 wr) (fun _ i _ => n - (intOf i).toNat)
  case atStart => exact ⟨1, 0, x, Nat.le_refl _, h0, h0, rfl, rfl, Hx, Hb0.out.symm, Chg.refl _ _⟩
  case round =>
    obtain ⟨k, j, b, hk1, hk, hj, rfl, rfl, hbj, hb, hC⟩ := hrel
    by_cases hlt : k < n
    · obtain ⟨ad, v, rfl, hv, hc0, _⟩ := Hr.out.getV hlt
      obtain ⟨ad2, b2, hA, hb2, hd0, _⟩ := Hr.out.getV hj
      cases hA
      obtain rfl : b2 = b := by have := hbj.out; rw [this] at hb2; exact (Option.some.inj hb2).symm
      have a0 := hC.cell hc0 id
      have b0 := hC.cell hd0 id
      have i1 : (0 : Int) ≤ (k : Int) := by omega
      have i2 : (k : Int) < n := by omega
      have i3 : (0 : Int) ≤ (j : Int) := by omega
      have i4 : (j : Int) < n := by omega
      have hst := newer_step hv x
      rw [← hb.out] at hst
      by_cases hlt2 : b2.ep < v.ep
      · have hst2 : Hid (v = (X.take (k + 1)).foldl newer x) := by show _ = _; rw [hst]; unfold newer; rw [if_pos hlt2]
        have Hv := Lib.hid hv
        have dd : decide (b2.ep < v.ep) = true := decide_eq_true hlt2
        clear hst hc0 hd0 hv hb2 hb
        go_wp2_with fail
        go_quiet (fail)
        go_wp2_with fail
        go_roundw
        case rel => exact ⟨k + 1, k, v, by omega, by omega, hlt, by go_num, rfl, Hv, hst2, hC.drewN _⟩
        case measure => simp [intOf]; omega
      · have hst2 : Hid (b2 = (X.take (k + 1)).foldl newer x) := by show _ = _; rw [hst]; unfold newer; rw [if_neg hlt2]
        have dd : decide (b2.ep < v.ep) = false := decide_eq_false hlt2
        clear hst hc0 hd0 hv hb2 hb
        go_wp2_with fail
        go_quiet (fail)
        go_wp2_with fail
        go_roundw
        case rel => exact ⟨k + 1, j, b2, by omega, by omega, hj, by go_num, rfl, hbj, hst2, hC.drewN _⟩
        case measure => simp [intOf]; omega
    · have hbX : b = X.foldl newer x := by rw [hb.out, List.take_of_length_le (by have := Hnl.out; omega)]
      obtain ⟨ad2, b2, rfl, hb2, hd0, hd1⟩ := Hr.out.getV hj
      obtain rfl : b2 = b := by have := hbj.out; rw [this] at hb2; exact (Option.some.inj hb2).symm
      have b0 := hC.cell hd0 id
      have b1 := hC.cell hd1 id
      have i3 : (0 : Int) ≤ (j : Int) := by omega
      have i4 : (j : Int) < n := by omega
      have HbX := Lib.hid hbX
      have hbR := hbR1.non hC
      have t0 := hbR.cell 0
      have t1 := hbR.cell 1
      have tf0 := hbR.frozen 0
      have tf1 := hbR.frozen 1
      simp only [List.getElem?_toArray, List.getElem?_cons_zero, List.getElem?_cons_succ] at t0 t1
      have hbR5 := (hbR.put 0 (.int .i64 b2.ep)).put 1 (.slice b2.A b2.n b2.c)
      simp only [List.setIfInBounds_toArray, List.set_cons_succ, List.set_cons_zero] at hbR5
      have u0 := hbR5.cell 0
      have u1 := hbR5.cell 1
      simp only [List.getElem?_toArray, List.getElem?_cons_zero, List.getElem?_cons_succ] at u0 u1
      have hC5 := ((hC1.non hC).setCell (p := ⟨w.heap.size, 0, none⟩) (.inr (Nat.le_refl _)) (.int .i64 b2.ep)).setCell (p := ⟨w.heap.size, 1, none⟩) (.inr (Nat.le_refl _)) (.slice b2.A b2.n b2.c)
      clear hbX hb hb2 hd0 hd1 hbR hbR5 hbj
      go_wp2_with fail
      exact bodyPost_ret (v := .agg #[.int .i64 b2.ep, .slice b2.A b2.n b2.c]) (by simp [results, Try.results18, go_sem, u0, u1]) rfl ⟨by rw [← HbX.out], hC5⟩

theorem newest_none (w : World) (A : Option Addr) (c : Nat) :
    Calls Try.prog 17 #[.slice A 0 c] w fun e w2 => e = .returned (.agg #[.int .i64 0, .slice none 0 0]) ∧ Chg Non w w2 := by
  go_enter Try.func17, Try.ntmps17
  go_wp2_with fail
  exact bodyPost_ret (v := .agg #[.int .i64 0, .slice none 0 0]) (by simp [results, Try.results17, go_sem]) rfl ⟨rfl, (Chg.refl _ _).alloc _⟩
theorem refNewest_none (w : World) (A : Option Addr) (c : Nat) :
    Calls Try.prog 18 #[.slice A 0 c] w fun e w2 => e = .returned (.agg #[.int .i64 0, .slice none 0 0]) ∧ Chg Non w w2 := by
  go_enter Try.func18, Try.ntmps18
  go_wp2_with fail
  exact bodyPost_ret (v := .agg #[.int .i64 0, .slice none 0 0]) (by simp [results, Try.results18, go_sem]) rfl ⟨rfl, (Chg.refl _ _).alloc _⟩

set_option maxRecDepth 100000 in
set_option maxHeartbeats 1000000 in
theorem viewNewest_core (w : World) (A : Option Addr) (n c : Nat) (X : List Vw) (h : Rds w 2 A n (X.flatMap cellV)) (hok : ∀ v ∈ X, v.ok w) (hn : n ≤ 50) :
    Calls Try.prog 4 #[.slice A n c] w fun e w2 => e = .returned (.bool true) ∧ Chg Non w w2 := by
  have Hr := Lib.hid h
  have Hok := Lib.hid hok
  have Hnl := Lib.hid (flat_eq cellV_len (by decide) h)
  clear h hok
  go_enter Try.func4, Try.ntmps4
  go_wp2_with fail
  refine (view_alive _).mono ?_
  rintro e w1 ⟨rfl, hc1⟩
  go_wp2_with fail
  go_loopw [4] (fun i wr => ∃ k : Nat, k ≤ n ∧ i = .int .i64 k ∧ Hid (∀ j v, j < k → X[j]? = some v → v.n ≤ 200) ∧ Chg Non w wr) (fun i _ => n - (intOf i).toNat)
  case atStart => exact ⟨0, Nat.zero_le _, rfl, (fun j v h => by omega), hc1⟩
  case round =>
    clear hc1
    obtain ⟨k, hk, rfl, hall, hC⟩ := hrel
    by_cases hlt : k < n
    · obtain ⟨ad, v, rfl, hv, hc0, hcc⟩ := Hr.out.getV hlt
      have a0 := hC.cell hc0 id
      have a1 := hC.cell hcc id
      by_cases hb : 200 < v.n
      · have Hb := Lib.hid (decide_eq_true hb)
        clear hc0 hcc hv hall
        go_wp2_with fail
        refine (big_any _ _ _ _ _).mono ?_
        rintro e w2 ⟨rfl, hc2⟩
        rw [Hb.out]
        go_wp2_with fail
        go_ret
        exact ⟨rfl, hC.non hc2⟩
      · have Hb := Lib.hid (decide_eq_false hb)
        have hall2 : Hid (∀ j v, j < k + 1 → X[j]? = some v → v.n ≤ 200) := by
          intro j u hj hu
          rcases Nat.lt_or_ge j k with h | h
          · exact hall.out j u h hu
          · obtain rfl : j = k := by omega
            rw [hv] at hu
            cases hu
            omega
        clear hc0 hcc hv hall
        go_wp2_with fail
        refine (big_any _ _ _ _ _).mono ?_
        rintro e w2 ⟨rfl, hc2⟩
        rw [Hb.out]
        go_wp2_with fail
        go_roundw
        case rel => exact ⟨k + 1, by omega, by go_num, hall2, hC.non hc2⟩
        case measure => simp [intOf]; omega
    · have hsm : ∀ v ∈ X, v.n ≤ 1000 := by
        intro v hv
        obtain ⟨j, hj⟩ := List.getElem?_of_mem hv
        have hjl := (List.getElem?_eq_some_iff.1 hj).1
        have := hall.out j v (by have := Hnl.out; omega) hj
        omega
      have Hsm := Lib.hid hsm
      clear hsm hall
      rcases Nat.eq_zero_or_pos n with h0 | h0
      · subst h0
        go_wp2_with fail
        refine (newest_none _ A c).mono ?_
        rintro e w2 ⟨rfl, hc2⟩
        go_wp2_with fail
        refine (refNewest_none _ A c).mono ?_
        rintro e w3 ⟨rfl, hc3⟩
        go_wp2_with fail
        refine (sameView_same _ 0 none 0 0 none 0 [] Rds.nil_ Rds.nil_ (by omega)).mono ?_
        rintro e w4 ⟨rfl, hc4⟩
        go_wp2_with fail
        go_ret
        exact ⟨rfl, ((hC.non hc2).non hc3).non hc4⟩
      · obtain ⟨x, hx⟩ : ∃ x, X[0]? = some x := ⟨_, List.getElem?_eq_getElem (by have := Hnl.out; omega)⟩
        have Hx := Lib.hid hx
        have hbok : (X.foldl newer x).ok w := by
          rcases newer_mem X x with h | h
          · rw [h]; exact Hok.out x (List.mem_of_getElem? hx)
          · exact Hok.out _ h
        have hbn : (X.foldl newer x).n ≤ 1000 := by
          rcases newer_mem X x with h | h
          · rw [h]; exact Hsm.out x (List.mem_of_getElem? hx)
          · exact Hsm.out _ h
        have hr1 := Hr.out.non hC
        clear hx
        go_wp2_with fail
        refine (newest_any _ A n c X x hr1 (fun v hv => (Hok.out v hv).non hC) Hx.out (by omega) Hsm.out).mono ?_
        rintro e w2 ⟨A2, c2, rfl, hrd2, hc2⟩
        have hr2 := hr1.non hc2
        go_wp2_with fail
        refine (refNewest_any _ A n c X x hr2 Hx.out (by omega)).mono ?_
        rintro e w3 ⟨rfl, hc3⟩
        generalize X.foldl newer x = b at hbok hbn hrd2 ⊢
        have hCe := (hC.non hc2).non hc3
        have hb3 := hbok.rds.non hCe
        have hrd3 := hrd2.non hc3
        clear hr1 hr2 hc2 hc3 hrd2 hbok
        go_wp2_with fail
        refine (sameView_same _ b.ep A2 b.n c2 b.A b.c b.L hrd3 hb3 (by omega)).mono ?_
        rintro e w4 ⟨rfl, hc4⟩
        go_wp2_with fail
        go_ret
        exact ⟨rfl, hCe.non hc4⟩

theorem viewNewest_walk (w : World) (A : Option Addr) (n c : Nat) (e0 : Rd Try.prog w 37 (Value.slice A n c).cells.toList) :
    Calls Try.prog 4 #[.slice A n c] w fun e w2 => e = .returned (.bool true) ∧ Chg Non w w2 := by
  obtain ⟨A', n', c', X, h1, h2, h3, h4, h5⟩ := e0.views
  simp only [Value.cells, List.cons.injEq, and_true, Value.slice.injEq] at h1
  obtain ⟨rfl, rfl, rfl⟩ := h1
  by_cases hn : n ≤ 50
  · exact viewNewest_core w A n c X h4 h5 hn
  · clear h4 h5 e0
    have h : 50 < n := by omega
    unfold maxLen at h3
    clear hn
    go_enter Try.func4, Try.ntmps4
    go_wp2_with fail
    refine (view_alive _).mono ?_
    rintro e w1 ⟨rfl, hc1⟩
    go_wp2_with fail
    go_ret
    exact ⟨rfl, hc1⟩
end Go.Proofs.Ytojlglkefiddnaa
