/-
  gleanerlaw18.ViewBack: the walk.
-/
import Derived.Test.YtojlglkefiddnaaViewBackPlain
import Derived.Test.YtojlglkefiddnaaViewNewestWalk
import Derived.Test.YtojlglkefiddnaaRegionM
namespace Go.Proofs.Ytojlglkefiddnaa
open Go.RowKit
set_option linter.unusedVariables false
set_option linter.unusedSimpArgs false

theorem back_without (w : World) (n xN : Nat) (A : Option Addr) (c : Nat) (B : Option Addr) (d : Nat) (h16 : n ≤ 16) (hx : 0 < xN) (hxn : xN < n) (h1 : Rds w 2 A n (mv (firstM n))) (h2 : Rds w 1 B 2 (iv [(xN : Int), (xN : Int)])) :
    Calls Try.prog 10 #[.agg #[.int .i64 1, .slice A n c], .slice B 2 d] w fun e w2 => ∃ A2 n2 c2, e = .returned (.tuple #[.agg #[.int .i64 2, .slice A2 n2 c2], .int .i64 0]) ∧ n2 + 1 = n ∧ n2 ≤ c2 ∧ c2 ≤ maxLen ∧ Rds w2 2 A2 n2 (mv (L2 n xN)) ∧ Chg Non w w2 := by
  have hl := firstM_len n
  have h := without_yes w 1 A c (firstM n) B 2 d [(xN : Int), (xN : Int)] (by rw [hl]; exact h1) (by rw [hl]; omega) h2 (by omega) (bad_first n xN h16 hx hxn) (by decide)
  rw [hl] at h
  refine h.mono ?_
  rintro e w2 ⟨A2, c2, rfl, hwin, _, hc⟩
  obtain ⟨A', c', e', h3, h4, h5⟩ := hwin.open_
  injection e' with e1 e2 e3
  subst e1 e3
  exact ⟨A2, _, c2, rfl, L2_len n xN hxn, h3, h4, h5, hc⟩
theorem back_with (w : World) (n xN : Nat) (life : Int) (A : Option Addr) (n2 c : Nat) (h16 : n ≤ 16) (hx : 0 < xN) (hxn : xN < n) (hl : countB life = true) (hn2 : n2 + 1 = n) (h1 : Rds w 2 A n2 (mv (L2 n xN))) :
    Calls Try.prog 19 #[.agg #[.int .i64 2, .slice A n2 c], .int .i64 xN, .int .i64 life] w fun e w2 => ∃ A2 c2, e = .returned (.tuple #[.agg #[.int .i64 3, .slice A2 n c2], .int .i64 0]) ∧ n ≤ c2 ∧ c2 ≤ maxLen ∧ Rds w2 2 A2 n (mv (L3 n xN life)) ∧ Chg Non w w2 := by
  refine (with_yes w 2 A n2 c (L2 n xN) xN life h1 (by omega) (with_L2 n xN life h16 hx hxn hl)).mono ?_
  rintro e w2 ⟨A2, c2, rfl, ho, hc⟩
  subst hn2
  obtain ⟨A', c', e', h3, h4, h5, _⟩ := ho.open_
  injection e' with e1 e2 e3
  subst e1 e3
  exact ⟨A2, c2, rfl, h3, h4, h5, hc⟩
theorem back_again (w : World) (n xN : Nat) (life : Int) (A : Option Addr) (c : Nat) (h16 : n ≤ 16) (h1 : Rds w 2 A n (mv (L3 n xN life))) :
    Calls Try.prog 19 #[.agg #[.int .i64 3, .slice A n c], .int .i64 xN, .int .i64 life] w fun e w2 => e = .returned (.tuple #[.agg #[.int .i64 0, .slice none 0 0], .int .i64 1]) ∧ Chg Non w w2 := by
  have h := with_no w 3 A n c (L3 n xN life) xN life h1 (by omega) (by rw [with_L3]; decide)
  rw [with_L3] at h
  exact h

set_option maxRecDepth 100000 in
set_option maxHeartbeats 8000000 in
theorem viewBack_core (w : World) (n xN : Nat) (life : Int) (h2n : 2 ≤ n) (h16 : n ≤ 16) (hx : 0 < xN) (hxn : xN < n) (hl2 : 2 ≤ life) (hl9 : life ≤ 2147483647) :
    Calls Try.prog 7 #[.int .i64 n, .int .i64 xN, .int .i64 life] w fun e w2 => e = .returned (.bool true) ∧ Chg Non w w2 := by
  have Hct : Hid (countB life = true) := by unfold countB; rw [decide_eq_true (by omega), decide_eq_true hl9]; rfl
  go_enter Try.func7, Try.ntmps7
  go_wp2_with fail
  refine (view_alive _).mono ?_
  rintro e w1 ⟨rfl, hc1⟩
  go_wp2_with fail
  refine (first_yes _ n (by omega) h16).mono ?_
  rintro e w2 ⟨A, c, rfl, hwin, _, hc2⟩
  obtain ⟨A', c', e', hnc, hcm, hR1⟩ := hwin.open_
  injection e' with e1 e2 e3
  subst e1 e3
  have hC2 := hc1.non hc2
  obtain ⟨w3, hw3⟩ : ∃ w3, w2.alloc (.cells #[.int .i64 1, .slice A n c] 26) = w3 := ⟨_, rfl⟩
  have hb1 : Blk w3 w2.heap.size 26 #[.int .i64 1, .slice A n c] := hw3 ▸ Blk.new _ _ _
  have hc3 : Chg Non w2 w3 := hw3 ▸ (Chg.refl _ _).alloc _
  have hC3 := hC2.non hc3
  have hR1 := hR1.non hc3
  have q0 : w3.cell? ⟨w2.heap.size, 0, none⟩ = some (.int .i64 1) := hb1.cell 0
  have q1 : w3.cell? ⟨w2.heap.size, 1, none⟩ = some (.slice A n c) := hb1.cell 1
  have ql := hb1.lt
  have hc4 : Chg Non w3 (w3.alloc (.cells #[.int .i64 xN, .int .i64 xN] 3)) := (Chg.refl _ _).alloc _
  have HW := Lib.hid (back_without (w3.alloc (.cells #[.int .i64 xN, .int .i64 xN] 3)) n xN A c (some ⟨w3.heap.size, 0, none⟩) 2 h16 hx hxn (hR1.non hc4) (Rds.block (Blk.new w3 3 #[.int .i64 xN, .int .i64 xN]) rfl))
  clear hc1 hc2 hC2 hc3 hwin
  go_wp2_with fail
  refine HW.out.mono ?_
  rintro e w4 ⟨A2, n2, c2, rfl, hn2, hnc2, hcm2, hR2, hc5⟩
  have hC4 := (hC3.non hc4).non hc5
  have hb1 := (hb1.non hc4).non hc5
  have hR1 := (hR1.non hc4).non hc5
  obtain ⟨w5, hw5⟩ : ∃ w5, w4.alloc (.cells #[.int .i64 2, .slice A2 n2 c2] 26) = w5 := ⟨_, rfl⟩
  have hb2 : Blk w5 w4.heap.size 26 #[.int .i64 2, .slice A2 n2 c2] := hw5 ▸ Blk.new _ _ _
  have hc6 : Chg Non w4 w5 := hw5 ▸ (Chg.refl _ _).alloc _
  have hC5 := hC4.non hc6
  have hb1 := hb1.non hc6
  have hR1 := hR1.non hc6
  have hR2 := hR2.non hc6
  have t0 : w5.cell? ⟨w4.heap.size, 0, none⟩ = some (.int .i64 2) := hb2.cell 0
  have t1 : w5.cell? ⟨w4.heap.size, 1, none⟩ = some (.slice A2 n2 c2) := hb2.cell 1
  have tl := hb2.lt
  have HW2 := Lib.hid (back_with w5 n xN life A2 n2 c2 h16 hx hxn Hct.out hn2 hR2)
  clear HW hw3 q0 q1 ql hc4 hC3 hC4 hc5 hc6
  go_wp2_with fail
  refine HW2.out.mono ?_
  rintro e w6 ⟨A3, c3, rfl, hnc3, hcm3, hR3, hc7⟩
  have hC6 := hC5.non hc7
  have hb1 := hb1.non hc7
  have hb2 := hb2.non hc7
  have hR1 := hR1.non hc7
  have hR2 := hR2.non hc7
  obtain ⟨w7, hw7⟩ : ∃ w7, w6.alloc (.cells #[.int .i64 3, .slice A3 n c3] 26) = w7 := ⟨_, rfl⟩
  have hb3 : Blk w7 w6.heap.size 26 #[.int .i64 3, .slice A3 n c3] := hw7 ▸ Blk.new _ _ _
  have hc8 : Chg Non w6 w7 := hw7 ▸ (Chg.refl _ _).alloc _
  have hC7 := hC6.non hc8
  have hb1 := hb1.non hc8
  have hb2 := hb2.non hc8
  have hR1 := hR1.non hc8
  have hR2 := hR2.non hc8
  have hR3 := hR3.non hc8
  have u0 : w7.cell? ⟨w6.heap.size, 0, none⟩ = some (.int .i64 3) := hb3.cell 0
  have u1 : w7.cell? ⟨w6.heap.size, 1, none⟩ = some (.slice A3 n c3) := hb3.cell 1
  have ul := hb3.lt
  have HW3 := Lib.hid (back_again w7 n xN life A3 c3 h16 hR3)
  clear HW2 hw5 t0 t1 tl hC5 hC6 hc7 hc8
  go_wp2_with fail
  refine HW3.out.mono ?_
  rintro e w8 ⟨rfl, hc9⟩
  go_wp2_with fail
  obtain ⟨wQ, hwQ⟩ : ∃ wQ, w8.alloc (.cells #[.int .i64 0, .slice none 0 0] 26) = wQ := ⟨_, rfl⟩
  rw [hwQ]
  have hcQ : Chg Non w7 wQ := hwQ ▸ hc9.alloc _
  have hCQ := hC7.non hcQ
  have hb1 := hb1.non hcQ
  have hb2 := hb2.non hcQ
  have hb3 := hb3.non hcQ
  have hR1 := hR1.non hcQ
  have hR2 := hR2.non hcQ
  have hR3 := hR3.non hcQ
  have hl1 := hb1.lt
  have hl2' := hb2.lt
  have hl3 := hb3.lt
  have a0 : ∀ wx, Chg Non wQ wx → wx.cell? ⟨w2.heap.size, 0, none⟩ = some (.int .i64 1) := fun wx h => h.cell (hb1.cell 0) id
  have a1 : ∀ wx, Chg Non wQ wx → wx.cell? ⟨w2.heap.size, 1, none⟩ = some (.slice A n c) := fun wx h => h.cell (hb1.cell 1) id
  have a2 : ∀ wx, Chg Non wQ wx → wx.cell? ⟨w4.heap.size, 0, none⟩ = some (.int .i64 2) := fun wx h => h.cell (hb2.cell 0) id
  have a3 : ∀ wx, Chg Non wQ wx → wx.cell? ⟨w4.heap.size, 1, none⟩ = some (.slice A2 n2 c2) := fun wx h => h.cell (hb2.cell 1) id
  have a4 : ∀ wx, Chg Non wQ wx → wx.cell? ⟨w6.heap.size, 0, none⟩ = some (.int .i64 3) := fun wx h => h.cell (hb3.cell 0) id
  have a5 : ∀ wx, Chg Non wQ wx → wx.cell? ⟨w6.heap.size, 1, none⟩ = some (.slice A3 n c3) := fun wx h => h.cell (hb3.cell 1) id
  obtain ⟨ad, mm, rfl, hmm, _, hm1⟩ := hR3.getM (k := xN) hxn
  rw [L3_at n xN life hxn] at hmm
  obtain rfl := Option.some.inj hmm
  have a6 : ∀ wx, Chg Non wQ wx → wx.cell? ⟨(ad.add (xN * 2)).block, (ad.add (xN * 2)).off + 1, none⟩ = some (.int .i64 life) := fun wx h => h.cell hm1 id
  have hx1 : (0 : Int) ≤ (xN : Int) := by omega
  have hx2 : (xN : Int) < (n : Int) := by omega
  have hnn : ((n : Int) == (n : Int)) = true := beq_self_eq_true _
  have hll : (life == life) = true := beq_self_eq_true _
  have HF1 := Lib.hid (fun (wx : World) (h : Chg Non wQ wx) => (fenced_1 n xN life hxn hl2 ▸ fenced_any wx 3 (some ad) n c3 (L3 n xN life) 3 xN 1 (hR3.non h) (by omega) : Calls Try.prog _ _ wx fun e w2 => e = .returned (.bool true) ∧ Chg Non wx w2))
  have HF2 := Lib.hid (fun (wx : World) (h : Chg Non wQ wx) => (fenced_life n xN life ▸ fenced_any wx 3 (some ad) n c3 (L3 n xN life) 3 xN life (hR3.non h) (by omega) : Calls Try.prog _ _ wx fun e w2 => e = .returned (.bool false) ∧ Chg Non wx w2))
  have HM := Lib.hid (fun (wx : World) (h : Chg Non wQ wx) => (may_L3 n xN life (by omega) h16 hx hxn Hct.out ▸ may_any wx 3 (some ad) n c3 (L3 n xN life) (hR3.non h) (by omega) : Calls Try.prog _ _ wx fun e w2 => e = .returned (.bool true) ∧ Chg Non wx w2))
  have HN := Lib.hid (fun (wx : World) (h : Chg Non wQ wx) (g : Nat) (hg : Blk wx g 26 #[.int .i64 1, .slice A n c, .int .i64 3, .slice (some ad) n c3, .int .i64 2, .slice A2 n2 c2]) => newest_any wx (some ⟨g, 0, none⟩) 3 3 [⟨1, A, n, c, firstM n⟩, ⟨3, some ad, n, c3, L3 n xN life⟩, ⟨2, A2, n2, c2, L2 n xN⟩] ⟨1, A, n, c, firstM n⟩ (Rds.blockN hg rfl) (by
    intro v hv
    simp only [List.mem_cons, List.not_mem_nil, or_false] at hv
    rcases hv with rfl | rfl | rfl
    · exact ⟨⟨by show -9223372036854775808 ≤ (1 : Int); decide, by show (1 : Int) ≤ 9223372036854775807; decide⟩, hnc, hcm, hR1.non h⟩
    · exact ⟨⟨by show -9223372036854775808 ≤ (3 : Int); decide, by show (3 : Int) ≤ 9223372036854775807; decide⟩, hnc3, hcm3, hR3.non h⟩
    · exact ⟨⟨by show -9223372036854775808 ≤ (2 : Int); decide, by show (2 : Int) ≤ 9223372036854775807; decide⟩, hnc2, hcm2, hR2.non h⟩) rfl (by omega) (by
    intro v hv
    simp only [List.mem_cons, List.not_mem_nil, or_false] at hv
    rcases hv with rfl | rfl | rfl
    · show n ≤ 1000; omega
    · show n ≤ 1000; omega
    · show n2 ≤ 1000; omega))
  have HS := Lib.hid (fun (wx : World) (h : Chg Non wQ wx) (A8 : Option Addr) (c8 : Nat) (hr : Rds wx 2 A8 n (mv (L3 n xN life))) => sameView_same wx 3 A8 n c8 (some ad) c3 (L3 n xN life) hr (hR3.non h) (by omega))
  clear HW3 hw7 hwQ u0 u1 ul hc9 hcQ hC7 hb1 hb2 hb3 hR1 hR2 hR3 hm1 Hct
  refine st_region _ Non [1, 3, 8, 36, 42, 47, 54, 56] [53] (fun i _ v wx => i = 54 → ∃ A c, v = .agg #[.int .i64 3, .slice A n c] ∧ Rds wx 2 A n (mv (L3 n xN life))) (fun i _ v wx => i = 54 → ∃ A c, v = .agg #[.int .i64 3, .slice A n c] ∧ Rds wx 2 A n (mv (L3 n xN life))) (fun i _ v => if i < 4 then v = .int .i64 0 else if i = 8 then v = .int .i64 1 else if i = 42 then v = .bool false else if i = 54 then ∃ A c, v = .agg #[.int .i64 3, .slice A n c] else v = .bool true) (fun _ => True) (by kernel_rfl) (okB_of_F _ (by kernel_rfl)) (fun b h => h.elim) trivial (fun _ _ _ => trivial) ?_
  repeat (first | (refine st_pass (by rfl) ?_; simp only [Act.put, List.setIfInBounds_toArray, List.set_cons_succ, List.set_cons_zero]) | (refine st_plain (Non) (wQ) rfl rfl (f := ?_) (by rfl) rfl rfl (fun w hC hG => ?_) ?_; rotate_left; (clear hG; first | (go_simp; done) | (go_simp; with_reducible rfl) | (simp [*, go_sem, ↓IntWalk.iteOmega]; done) | (simp [*, go_sem, ↓IntWalk.iteOmega]; with_reducible rfl)); simp only [Act.put, List.setIfInBounds_toArray, List.set_cons_succ, List.set_cons_zero]))
  refine st_major (Non) (wQ) rfl rfl (by rfl) rfl (⟨_, rfl⟩) (fun v w1 w2 _ h1 h2 h3 => by cases h3) (fun v wx ob h e => by cases e) (fun w hC hG hS => settle_of (r2 := ?_) ?_ ?_) ?_
  rotate_left
  (first | (go_simp; done) | (go_simp; rfl))
  · refine settle_enter ((num_any _ _).mono ?_)
    rintro e w6 ⟨rfl, hc6⟩
    subst hc6
    exact ⟨_, rfl, rfl, Chg.refl _ _, (fun e => by cases e), (fun e => by cases e)⟩
  rintro v hv
  obtain rfl : v = .int .i64 0 := hv
  simp only [Act.put, List.setIfInBounds_toArray, List.set_cons_succ, List.set_cons_zero]
  repeat (first | (refine st_pass (by rfl) ?_; simp only [Act.put, List.setIfInBounds_toArray, List.set_cons_succ, List.set_cons_zero]) | (refine st_plain (Non) (wQ) rfl rfl (f := ?_) (by rfl) rfl rfl (fun w hC hG => ?_) ?_; rotate_left; (clear hG; first | (go_simp; done) | (go_simp; with_reducible rfl) | (simp [*, go_sem, ↓IntWalk.iteOmega]; done) | (simp [*, go_sem, ↓IntWalk.iteOmega]; with_reducible rfl)); simp only [Act.put, List.setIfInBounds_toArray, List.set_cons_succ, List.set_cons_zero]))
  refine st_major (Non) (wQ) rfl rfl (by rfl) rfl (⟨_, rfl⟩) (fun v w1 w2 _ h1 h2 h3 => by cases h3) (fun v wx ob h e => by cases e) (fun w hC hG hS => settle_of (r2 := ?_) ?_ ?_) ?_
  rotate_left
  (first | (go_simp; done) | (go_simp; rfl))
  · refine settle_enter ((num_any _ _).mono ?_)
    rintro e w6 ⟨rfl, hc6⟩
    subst hc6
    exact ⟨_, rfl, rfl, Chg.refl _ _, (fun e => by cases e), (fun e => by cases e)⟩
  rintro v hv
  obtain rfl : v = .int .i64 0 := hv
  simp only [Act.put, List.setIfInBounds_toArray, List.set_cons_succ, List.set_cons_zero]
  repeat (first | (refine st_pass (by rfl) ?_; simp only [Act.put, List.setIfInBounds_toArray, List.set_cons_succ, List.set_cons_zero]) | (refine st_plain (Non) (wQ) rfl rfl (f := ?_) (by rfl) rfl rfl (fun w hC hG => ?_) ?_; rotate_left; (clear hG; first | (go_simp; done) | (go_simp; with_reducible rfl) | (simp [*, go_sem, ↓IntWalk.iteOmega]; done) | (simp [*, go_sem, ↓IntWalk.iteOmega]; with_reducible rfl)); simp only [Act.put, List.setIfInBounds_toArray, List.set_cons_succ, List.set_cons_zero]))
  refine st_major (Non) (wQ) rfl rfl (by rfl) rfl (⟨_, rfl⟩) (fun v w1 w2 _ h1 h2 h3 => by cases h3) (fun v wx ob h e => by cases e) (fun w hC hG hS => settle_of (r2 := ?_) ?_ ?_) ?_
  rotate_left
  (first | (go_simp; done) | (go_simp; rfl))
  · refine settle_enter ((num_any _ _).mono ?_)
    rintro e w6 ⟨rfl, hc6⟩
    subst hc6
    exact ⟨_, rfl, rfl, Chg.refl _ _, (fun e => by cases e), (fun e => by cases e)⟩
  rintro v hv
  obtain rfl : v = .int .i64 1 := hv
  simp only [Act.put, List.setIfInBounds_toArray, List.set_cons_succ, List.set_cons_zero]
  repeat (first | (refine st_pass (by rfl) ?_; simp only [Act.put, List.setIfInBounds_toArray, List.set_cons_succ, List.set_cons_zero]) | (refine st_plain (Non) (wQ) rfl rfl (f := ?_) (by rfl) rfl rfl (fun w hC hG => ?_) ?_; rotate_left; (clear hG; first | (go_simp; done) | (go_simp; with_reducible rfl) | (simp [*, go_sem, ↓IntWalk.iteOmega]; done) | (simp [*, go_sem, ↓IntWalk.iteOmega]; with_reducible rfl)); simp only [Act.put, List.setIfInBounds_toArray, List.set_cons_succ, List.set_cons_zero]))
  refine st_major (Non) (wQ) rfl rfl (by rfl) rfl (⟨_, rfl⟩) (fun v w1 w2 _ h1 h2 h3 => by cases h3) (fun v wx ob h e => by cases e) (fun w hC hG hS => settle_of (r2 := ?_) ?_ ?_) ?_
  rotate_left
  (first | (go_simp; done) | (go_simp; rfl))
  · refine settle_enter ((HF1.out _ hC).mono ?_)
    rintro e w6 ⟨rfl, hc6⟩
    exact ⟨_, rfl, rfl, hc6, (fun e => by cases e), (fun e => by cases e)⟩
  rintro v hv
  obtain rfl : v = .bool true := hv
  simp only [Act.put, List.setIfInBounds_toArray, List.set_cons_succ, List.set_cons_zero]
  repeat (first | (refine st_pass (by rfl) ?_; simp only [Act.put, List.setIfInBounds_toArray, List.set_cons_succ, List.set_cons_zero]) | (refine st_plain (Non) (wQ) rfl rfl (f := ?_) (by rfl) rfl rfl (fun w hC hG => ?_) ?_; rotate_left; (clear hG; first | (go_simp; done) | (go_simp; with_reducible rfl) | (simp [*, go_sem, ↓IntWalk.iteOmega]; done) | (simp [*, go_sem, ↓IntWalk.iteOmega]; with_reducible rfl)); simp only [Act.put, List.setIfInBounds_toArray, List.set_cons_succ, List.set_cons_zero]))
  refine st_major (Non) (wQ) rfl rfl (by rfl) rfl (⟨_, rfl⟩) (fun v w1 w2 _ h1 h2 h3 => by cases h3) (fun v wx ob h e => by cases e) (fun w hC hG hS => settle_of (r2 := ?_) ?_ ?_) ?_
  rotate_left
  (first | (go_simp; done) | (go_simp; rfl))
  · refine settle_enter ((HF2.out _ hC).mono ?_)
    rintro e w6 ⟨rfl, hc6⟩
    exact ⟨_, rfl, rfl, hc6, (fun e => by cases e), (fun e => by cases e)⟩
  rintro v hv
  obtain rfl : v = .bool false := hv
  simp only [Act.put, List.setIfInBounds_toArray, List.set_cons_succ, List.set_cons_zero]
  repeat (first | (refine st_pass (by rfl) ?_; simp only [Act.put, List.setIfInBounds_toArray, List.set_cons_succ, List.set_cons_zero]) | (refine st_plain (Non) (wQ) rfl rfl (f := ?_) (by rfl) rfl rfl (fun w hC hG => ?_) ?_; rotate_left; (clear hG; first | (go_simp; done) | (go_simp; with_reducible rfl) | (simp [*, go_sem, ↓IntWalk.iteOmega]; done) | (simp [*, go_sem, ↓IntWalk.iteOmega]; with_reducible rfl)); simp only [Act.put, List.setIfInBounds_toArray, List.set_cons_succ, List.set_cons_zero]))
  refine st_major (Non) (wQ) rfl rfl (by rfl) rfl (⟨_, rfl⟩) (fun v w1 w2 _ h1 h2 h3 => by cases h3) (fun v wx ob h e => by cases e) (fun w hC hG hS => settle_of (r2 := ?_) ?_ ?_) ?_
  rotate_left
  (first | (go_simp; done) | (go_simp; rfl))
  · refine settle_enter ((HM.out _ hC).mono ?_)
    rintro e w6 ⟨rfl, hc6⟩
    exact ⟨_, rfl, rfl, hc6, (fun e => by cases e), (fun e => by cases e)⟩
  rintro v hv
  obtain rfl : v = .bool true := hv
  simp only [Act.put, List.setIfInBounds_toArray, List.set_cons_succ, List.set_cons_zero]
  repeat (first | (refine st_pass (by rfl) ?_; simp only [Act.put, List.setIfInBounds_toArray, List.set_cons_succ, List.set_cons_zero]) | (refine st_plain (Non) (wQ) rfl rfl (f := ?_) (by rfl) rfl rfl (fun w hC hG => ?_) ?_; rotate_left; (clear hG; first | (go_simp; done) | (go_simp; with_reducible rfl) | (simp [*, go_sem, ↓IntWalk.iteOmega]; done) | (simp [*, go_sem, ↓IntWalk.iteOmega]; with_reducible rfl)); simp only [Act.put, List.setIfInBounds_toArray, List.set_cons_succ, List.set_cons_zero]))
  refine st_minor Non wQ rfl rfl (ob := .cells #[.int .i64 1, .slice A n c, .int .i64 3, .slice (some ad) n c3, .int .i64 2, .slice A2 n2 c2] 26) (kd := some (3, 3)) (by rfl) rfl rfl (fun w hC hG => by clear hG; go_simp; rfl) (fun g9 => ?_)
  simp only [Act.put, List.setIfInBounds_toArray, List.set_cons_succ, List.set_cons_zero]
  refine st_major (Non) (wQ) rfl rfl (by rfl) rfl (⟨_, none, 0, rfl⟩) (fun v w1 w2 _ h1 h2 h3 => by obtain ⟨A, c, e, hr⟩ := h2 h3; exact ⟨A, c, e, hr.non h1⟩) (fun v wx ob h e => by obtain ⟨A, c, e2, hr⟩ := h e; exact ⟨A, c, e2, hr.non ((Chg.refl _ wx).alloc ob)⟩) (fun w hC hG hS => settle_of (r2 := ?_) ?_ ?_) ?_
  rotate_left
  (first | (go_simp; done) | (go_simp; rfl))
  · refine settle_enter ((HN.out _ hC g9 (hG 53 rfl).2).mono ?_)
    rintro e w6 ⟨A6, c6, rfl, hr6, hc6⟩
    exact ⟨_, rfl, ⟨A6, c6, rfl⟩, hc6, fun _ => ⟨A6, c6, rfl, hr6⟩, fun _ => ⟨A6, c6, rfl, hr6⟩⟩
  rintro v hv
  obtain ⟨A6, c6, rfl⟩ : ∃ A c, v = .agg #[.int .i64 3, .slice A n c] := hv
  simp only [Act.put, List.setIfInBounds_toArray, List.set_cons_succ, List.set_cons_zero]
  repeat (first | (refine st_pass (by rfl) ?_; simp only [Act.put, List.setIfInBounds_toArray, List.set_cons_succ, List.set_cons_zero]) | (refine st_plain (Non) (wQ) rfl rfl (f := ?_) (by rfl) rfl rfl (fun w hC hG => ?_) ?_; rotate_left; (clear hG; first | (go_simp; done) | (go_simp; with_reducible rfl) | (simp [*, go_sem, ↓IntWalk.iteOmega]; done) | (simp [*, go_sem, ↓IntWalk.iteOmega]; with_reducible rfl)); simp only [Act.put, List.setIfInBounds_toArray, List.set_cons_succ, List.set_cons_zero]))
  refine st_major (Non) (wQ) rfl rfl (by rfl) rfl (⟨_, rfl⟩) (fun v w1 w2 _ h1 h2 h3 => by cases h3) (fun v wx ob h e => by cases e) (fun w hC hG hS => settle_of (r2 := ?_) ?_ ?_) ?_
  rotate_left
  (first | (go_simp; done) | (go_simp; rfl))
  · have hK : (True → ∃ A c, (.agg #[.int .i64 3, .slice A6 n c6] : Value) = .agg #[.int .i64 3, .slice A n c] ∧ Rds w 2 A n (mv (L3 n xN life))) := hG 54 rfl
    obtain ⟨A7, c7, e7, hr7⟩ := hK trivial
    simp only [Value.agg.injEq, Array.mk.injEq, List.cons.injEq, and_true, true_and, Value.slice.injEq] at e7
    obtain ⟨rfl, rfl⟩ := e7
    refine settle_enter ((HS.out _ hC A6 c6 hr7).mono ?_)
    rintro e w6 ⟨rfl, hc6⟩
    exact ⟨_, rfl, rfl, hc6, (fun e => by cases e), (fun e => by cases e)⟩
  rintro v hv
  obtain rfl : v = .bool true := hv
  simp only [Act.put, List.setIfInBounds_toArray, List.set_cons_succ, List.set_cons_zero]
  repeat (first | (refine st_pass (by rfl) ?_; simp only [Act.put, List.setIfInBounds_toArray, List.set_cons_succ, List.set_cons_zero]) | (refine st_plain (Non) (wQ) rfl rfl (f := ?_) (by rfl) rfl rfl (fun w hC hG => ?_) ?_; rotate_left; (clear hG; first | (go_simp; done) | (go_simp; with_reducible rfl) | (simp [*, go_sem, ↓IntWalk.iteOmega]; done) | (simp [*, go_sem, ↓IntWalk.iteOmega]; with_reducible rfl)); simp only [Act.put, List.setIfInBounds_toArray, List.set_cons_succ, List.set_cons_zero]))
  refine st_end Non wQ rfl rfl (fun w6 hC6 hS6 hG6 => ?_)
  clear hG6 hS6
  go_wp2_with fail
  go_ret
  exact ⟨rfl, hCQ.non hC6⟩

set_option maxRecDepth 100000 in
set_option maxHeartbeats 4000000 in
theorem viewBack_walk (w : World) (a : Int) (ha : i64 a) (b : Int) (hb : i64 b) (life : Int) (hl : i64 life) :
    Calls Try.prog 7 #[.int .i64 a, .int .i64 b, .int .i64 life] w fun e w2 => e = .returned (.bool true) ∧ Chg Non w w2 := by
  by_cases h : 2 ≤ a ∧ a ≤ 16 ∧ 1 ≤ b ∧ b < a ∧ 2 ≤ life ∧ life ≤ 2147483647
  · obtain ⟨h1, h2, h3, h4, h5, h6⟩ := h
    obtain ⟨n, rfl⟩ : ∃ n : Nat, a = n := ⟨a.toNat, by omega⟩
    obtain ⟨xN, rfl⟩ : ∃ n : Nat, b = n := ⟨b.toNat, by omega⟩
    exact viewBack_core w n xN life (by omega) (by omega) (by omega) (by omega) h5 h6
  · have hex : a < 2 ∨ (2 ≤ a ∧ 16 < a) ∨ (2 ≤ a ∧ a ≤ 16 ∧ b < 1) ∨ (2 ≤ a ∧ a ≤ 16 ∧ 1 ≤ b ∧ a ≤ b) ∨ (2 ≤ a ∧ a ≤ 16 ∧ 1 ≤ b ∧ b < a ∧ life < 2) ∨ (2 ≤ a ∧ a ≤ 16 ∧ 1 ≤ b ∧ b < a ∧ 2 ≤ life ∧ 2147483647 < life) := by omega
    clear h ha hb hl
    rcases hex with h1 | ⟨h1, h2⟩ | ⟨h1, h2, h3⟩ | ⟨h1, h2, h3, h4⟩ | ⟨h1, h2, h3, h4, h5⟩ | ⟨h1, h2, h3, h4, h5, h6⟩
    all_goals
      go_enter Try.func7, Try.ntmps7
      go_wp2_with fail
      refine (view_alive _).mono ?_
      rintro e w1 ⟨rfl, hc1⟩
      go_wp2_with fail
      go_ret
      exact ⟨rfl, hc1⟩
end Go.Proofs.Ytojlglkefiddnaa
