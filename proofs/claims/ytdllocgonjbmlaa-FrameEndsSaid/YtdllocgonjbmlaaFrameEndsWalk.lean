/-
  gleanerlaw10.FrameEnds: the walk.
-/
import Derived.Test.YtdllocgonjbmlaaFrameAlive
import Derived.Laws.MakeOwn
import Derived.Laws.OwnMore
namespace Go.Proofs.Ytdllocgonjbmlaa
open Go.RowKit
set_option linter.unusedVariables false
set_option linter.unusedSimpArgs false

theorem err_one {f : Fr} {n m : Int} (h : f.fine = upto m n) (hl : f.load = []) : (0 ≤ n ∧ n ≤ m → f.err = 0) ∧ (¬ (0 ≤ n ∧ n ≤ m) → f.err = 1) := by
  constructor
  · intro hn
    exact Fr.err0.2 ⟨by rw [h]; exact upto_iff.2 hn, by rw [hl]; simp⟩
  · intro hn
    exact Fr.err_bad (by rw [h]; exact Bool.eq_false_iff.2 fun e => hn (upto_iff.1 e))
theorem pack_pos {f : Fr} (h : f.err = 0) : 1 ≤ f.pack.length ∧ f.pack.length ≤ 5000 := by
  have h1 := f.bytes_len
  have h2 := f.tail_len
  have h3 := (Fr.err0.1 h).2
  rw [Fr.pack_ok h]
  omega
theorem pack_zero {f : Fr} (h : f.err ≠ 0) : f.pack.length = 0 := by rw [Fr.pack_err h]; rfl

set_option maxRecDepth 100000 in
set_option maxHeartbeats 1000000 in
theorem frameEnds_0 (w : World) (n : Int) (hn : i64 n) : Calls Try.prog 6 #[.int .i64 0, .int .i64 n] w fun e w2 => e = .returned (.bool true) ∧ Chg Non w w2 := by
  unfold i64 at hn
  have hE := err_one (f := ⟨n, 0, 0, 0, 0, []⟩) (n := n) (m := 15) (by unfold Fr.fine nodeB numB; simp [upto]) rfl
  have hcase : (0 ≤ n ∧ n ≤ 15) ∨ n < 0 ∨ (0 ≤ n ∧ 15 < n) := by omega
  rcases hcase with ⟨h0, h1⟩ | h0 | ⟨h0, h1⟩
  · have herr := hE.1 ⟨h0, h1⟩
    clear hE
    go_enter Try.func6, Try.ntmps6
    go_wp2_with fail
    refine (frame_alive w).mono ?_
    rintro e w1 ⟨rfl, hc1⟩
    obtain ⟨w2, hw2⟩ : ∃ w2, w1.alloc (.cells #[.int .i64 n, .int .i64 0, .int .i64 0, .int .i64 0, .int .i64 0, .slice none 0 0] 24) = w2 := ⟨_, rfl⟩
    have hC : Chg Non w w2 := hc1.non (hw2 ▸ (Chg.refl _ _).alloc _)
    have hb2 : Blk w2 w1.heap.size 24 #[.int .i64 n, .int .i64 0, .int .i64 0, .int .i64 0, .int .i64 0, .slice none 0 0] := hw2 ▸ Blk.new _ _ _
    have x0 := hb2.cell 0
    have x1 := hb2.cell 1
    have x2 := hb2.cell 2
    have x3 := hb2.cell 3
    have x4 := hb2.cell 4
    have x5 := hb2.cell 5
    simp only [frC, List.getElem?_toArray, List.getElem?_cons_zero, List.getElem?_cons_succ] at x0 x1 x2 x3 x4 x5
    go_wp2_with fail
    clear hw2 hb2 x0 x1 x2 x3 x4 x5
    refine (pack_any _ ⟨n, 0, 0, 0, 0, []⟩ none 0 0 Rds.nil_ (Nat.le_refl _) (by unfold maxLen; omega)).mono ?_
    rintro e w8 ⟨v8, rfl, hown8, hc8⟩
    obtain ⟨A8, n8, c8, rfl, hn8, hnc8, hcm8, hr8⟩ := hown8.open_
    have hlen8 := pack_pos herr
    have hp8 : 1 ≤ n8 := by have := hn8.out; omega
    have hq8 : n8 ≤ 5000 := by have := hn8.out; omega
    rw [herr]
    clear hlen8 hown8 hr8 herr
    go_wp2_with fail
    refine (num_any _ _).mono ?_
    rintro e w9 ⟨rfl, rfl⟩
    go_wp2_with fail
    go_ret
    exact ⟨by first | rfl | (show Ending.returned (.bool (decide (0 < n8))) = _; rw [decide_eq_true (by omega)]) | (show Ending.returned (.bool (decide (0 < (n8 : Int)))) = _; rw [decide_eq_true (by omega)]) | (show Ending.returned (.bool (!decide (n ≤ 4096))) = _; rw [decide_eq_false (by omega)]; rfl) | (show Ending.returned (.bool (!decide ((n : Int) ≤ 15))) = _; rw [decide_eq_false (by omega)]; rfl), hC.non hc8⟩
  · have herr := hE.2 (by omega)
    clear hE
    go_enter Try.func6, Try.ntmps6
    go_wp2_with fail
    refine (frame_alive w).mono ?_
    rintro e w1 ⟨rfl, hc1⟩
    obtain ⟨w2, hw2⟩ : ∃ w2, w1.alloc (.cells #[.int .i64 n, .int .i64 0, .int .i64 0, .int .i64 0, .int .i64 0, .slice none 0 0] 24) = w2 := ⟨_, rfl⟩
    have hC : Chg Non w w2 := hc1.non (hw2 ▸ (Chg.refl _ _).alloc _)
    have hb2 : Blk w2 w1.heap.size 24 #[.int .i64 n, .int .i64 0, .int .i64 0, .int .i64 0, .int .i64 0, .slice none 0 0] := hw2 ▸ Blk.new _ _ _
    have x0 := hb2.cell 0
    have x1 := hb2.cell 1
    have x2 := hb2.cell 2
    have x3 := hb2.cell 3
    have x4 := hb2.cell 4
    have x5 := hb2.cell 5
    simp only [frC, List.getElem?_toArray, List.getElem?_cons_zero, List.getElem?_cons_succ] at x0 x1 x2 x3 x4 x5
    go_wp2_with fail
    clear hw2 hb2 x0 x1 x2 x3 x4 x5
    refine (pack_any _ ⟨n, 0, 0, 0, 0, []⟩ none 0 0 Rds.nil_ (Nat.le_refl _) (by unfold maxLen; omega)).mono ?_
    rintro e w8 ⟨v8, rfl, hown8, hc8⟩
    obtain ⟨A8, n8, c8, rfl, hn8, hnc8, hcm8, hr8⟩ := hown8.open_
    have hlen8 := pack_zero (f := ⟨n, 0, 0, 0, 0, []⟩) (by rw [herr]; decide)
    obtain rfl : n8 = 0 := by have := hn8.out; omega
    rw [herr]
    clear hlen8 hown8 hr8 herr
    go_wp2_with fail
    refine (num_any _ _).mono ?_
    rintro e w9 ⟨rfl, rfl⟩
    go_wp2_with fail
    go_ret
    exact ⟨by first | rfl | (show Ending.returned (.bool (decide (0 < n8))) = _; rw [decide_eq_true (by omega)]) | (show Ending.returned (.bool (decide (0 < (n8 : Int)))) = _; rw [decide_eq_true (by omega)]) | (show Ending.returned (.bool (!decide (n ≤ 4096))) = _; rw [decide_eq_false (by omega)]; rfl) | (show Ending.returned (.bool (!decide ((n : Int) ≤ 15))) = _; rw [decide_eq_false (by omega)]; rfl), hC.non hc8⟩
  · have herr := hE.2 (by omega)
    clear hE
    go_enter Try.func6, Try.ntmps6
    go_wp2_with fail
    refine (frame_alive w).mono ?_
    rintro e w1 ⟨rfl, hc1⟩
    obtain ⟨w2, hw2⟩ : ∃ w2, w1.alloc (.cells #[.int .i64 n, .int .i64 0, .int .i64 0, .int .i64 0, .int .i64 0, .slice none 0 0] 24) = w2 := ⟨_, rfl⟩
    have hC : Chg Non w w2 := hc1.non (hw2 ▸ (Chg.refl _ _).alloc _)
    have hb2 : Blk w2 w1.heap.size 24 #[.int .i64 n, .int .i64 0, .int .i64 0, .int .i64 0, .int .i64 0, .slice none 0 0] := hw2 ▸ Blk.new _ _ _
    have x0 := hb2.cell 0
    have x1 := hb2.cell 1
    have x2 := hb2.cell 2
    have x3 := hb2.cell 3
    have x4 := hb2.cell 4
    have x5 := hb2.cell 5
    simp only [frC, List.getElem?_toArray, List.getElem?_cons_zero, List.getElem?_cons_succ] at x0 x1 x2 x3 x4 x5
    go_wp2_with fail
    clear hw2 hb2 x0 x1 x2 x3 x4 x5
    refine (pack_any _ ⟨n, 0, 0, 0, 0, []⟩ none 0 0 Rds.nil_ (Nat.le_refl _) (by unfold maxLen; omega)).mono ?_
    rintro e w8 ⟨v8, rfl, hown8, hc8⟩
    obtain ⟨A8, n8, c8, rfl, hn8, hnc8, hcm8, hr8⟩ := hown8.open_
    have hlen8 := pack_zero (f := ⟨n, 0, 0, 0, 0, []⟩) (by rw [herr]; decide)
    obtain rfl : n8 = 0 := by have := hn8.out; omega
    rw [herr]
    clear hlen8 hown8 hr8 herr
    go_wp2_with fail
    refine (num_any _ _).mono ?_
    rintro e w9 ⟨rfl, rfl⟩
    go_wp2_with fail
    go_ret
    exact ⟨by first | rfl | (show Ending.returned (.bool (decide (0 < n8))) = _; rw [decide_eq_true (by omega)]) | (show Ending.returned (.bool (decide (0 < (n8 : Int)))) = _; rw [decide_eq_true (by omega)]) | (show Ending.returned (.bool (!decide (n ≤ 4096))) = _; rw [decide_eq_false (by omega)]; rfl) | (show Ending.returned (.bool (!decide ((n : Int) ≤ 15))) = _; rw [decide_eq_false (by omega)]; rfl), hC.non hc8⟩
theorem frameEnds_1 (w : World) (n : Int) (hn : i64 n) : Calls Try.prog 6 #[.int .i64 1, .int .i64 n] w fun e w2 => e = .returned (.bool true) ∧ Chg Non w w2 := by
  unfold i64 at hn
  have hE := err_one (f := ⟨0, n, 0, 0, 0, []⟩) (n := n) (m := 15) (by unfold Fr.fine nodeB numB; simp [upto]) rfl
  have hcase : (0 ≤ n ∧ n ≤ 15) ∨ n < 0 ∨ (0 ≤ n ∧ 15 < n) := by omega
  rcases hcase with ⟨h0, h1⟩ | h0 | ⟨h0, h1⟩
  · have herr := hE.1 ⟨h0, h1⟩
    clear hE
    go_enter Try.func6, Try.ntmps6
    go_wp2_with fail
    refine (frame_alive w).mono ?_
    rintro e w1 ⟨rfl, hc1⟩
    obtain ⟨w2, hw2⟩ : ∃ w2, w1.alloc (.cells #[.int .i64 0, .int .i64 n, .int .i64 0, .int .i64 0, .int .i64 0, .slice none 0 0] 24) = w2 := ⟨_, rfl⟩
    have hC : Chg Non w w2 := hc1.non (hw2 ▸ (Chg.refl _ _).alloc _)
    have hb2 : Blk w2 w1.heap.size 24 #[.int .i64 0, .int .i64 n, .int .i64 0, .int .i64 0, .int .i64 0, .slice none 0 0] := hw2 ▸ Blk.new _ _ _
    have x0 := hb2.cell 0
    have x1 := hb2.cell 1
    have x2 := hb2.cell 2
    have x3 := hb2.cell 3
    have x4 := hb2.cell 4
    have x5 := hb2.cell 5
    simp only [frC, List.getElem?_toArray, List.getElem?_cons_zero, List.getElem?_cons_succ] at x0 x1 x2 x3 x4 x5
    go_wp2_with fail
    clear hw2 hb2 x0 x1 x2 x3 x4 x5
    refine (pack_any _ ⟨0, n, 0, 0, 0, []⟩ none 0 0 Rds.nil_ (Nat.le_refl _) (by unfold maxLen; omega)).mono ?_
    rintro e w8 ⟨v8, rfl, hown8, hc8⟩
    obtain ⟨A8, n8, c8, rfl, hn8, hnc8, hcm8, hr8⟩ := hown8.open_
    have hlen8 := pack_pos herr
    have hp8 : 1 ≤ n8 := by have := hn8.out; omega
    have hq8 : n8 ≤ 5000 := by have := hn8.out; omega
    rw [herr]
    clear hlen8 hown8 hr8 herr
    go_wp2_with fail
    refine (num_any _ _).mono ?_
    rintro e w9 ⟨rfl, rfl⟩
    go_wp2_with fail
    go_ret
    exact ⟨by first | rfl | (show Ending.returned (.bool (decide (0 < n8))) = _; rw [decide_eq_true (by omega)]) | (show Ending.returned (.bool (decide (0 < (n8 : Int)))) = _; rw [decide_eq_true (by omega)]) | (show Ending.returned (.bool (!decide (n ≤ 4096))) = _; rw [decide_eq_false (by omega)]; rfl) | (show Ending.returned (.bool (!decide ((n : Int) ≤ 15))) = _; rw [decide_eq_false (by omega)]; rfl), hC.non hc8⟩
  · have herr := hE.2 (by omega)
    clear hE
    go_enter Try.func6, Try.ntmps6
    go_wp2_with fail
    refine (frame_alive w).mono ?_
    rintro e w1 ⟨rfl, hc1⟩
    obtain ⟨w2, hw2⟩ : ∃ w2, w1.alloc (.cells #[.int .i64 0, .int .i64 n, .int .i64 0, .int .i64 0, .int .i64 0, .slice none 0 0] 24) = w2 := ⟨_, rfl⟩
    have hC : Chg Non w w2 := hc1.non (hw2 ▸ (Chg.refl _ _).alloc _)
    have hb2 : Blk w2 w1.heap.size 24 #[.int .i64 0, .int .i64 n, .int .i64 0, .int .i64 0, .int .i64 0, .slice none 0 0] := hw2 ▸ Blk.new _ _ _
    have x0 := hb2.cell 0
    have x1 := hb2.cell 1
    have x2 := hb2.cell 2
    have x3 := hb2.cell 3
    have x4 := hb2.cell 4
    have x5 := hb2.cell 5
    simp only [frC, List.getElem?_toArray, List.getElem?_cons_zero, List.getElem?_cons_succ] at x0 x1 x2 x3 x4 x5
    go_wp2_with fail
    clear hw2 hb2 x0 x1 x2 x3 x4 x5
    refine (pack_any _ ⟨0, n, 0, 0, 0, []⟩ none 0 0 Rds.nil_ (Nat.le_refl _) (by unfold maxLen; omega)).mono ?_
    rintro e w8 ⟨v8, rfl, hown8, hc8⟩
    obtain ⟨A8, n8, c8, rfl, hn8, hnc8, hcm8, hr8⟩ := hown8.open_
    have hlen8 := pack_zero (f := ⟨0, n, 0, 0, 0, []⟩) (by rw [herr]; decide)
    obtain rfl : n8 = 0 := by have := hn8.out; omega
    rw [herr]
    clear hlen8 hown8 hr8 herr
    go_wp2_with fail
    refine (num_any _ _).mono ?_
    rintro e w9 ⟨rfl, rfl⟩
    go_wp2_with fail
    go_ret
    exact ⟨by first | rfl | (show Ending.returned (.bool (decide (0 < n8))) = _; rw [decide_eq_true (by omega)]) | (show Ending.returned (.bool (decide (0 < (n8 : Int)))) = _; rw [decide_eq_true (by omega)]) | (show Ending.returned (.bool (!decide (n ≤ 4096))) = _; rw [decide_eq_false (by omega)]; rfl) | (show Ending.returned (.bool (!decide ((n : Int) ≤ 15))) = _; rw [decide_eq_false (by omega)]; rfl), hC.non hc8⟩
  · have herr := hE.2 (by omega)
    clear hE
    go_enter Try.func6, Try.ntmps6
    go_wp2_with fail
    refine (frame_alive w).mono ?_
    rintro e w1 ⟨rfl, hc1⟩
    obtain ⟨w2, hw2⟩ : ∃ w2, w1.alloc (.cells #[.int .i64 0, .int .i64 n, .int .i64 0, .int .i64 0, .int .i64 0, .slice none 0 0] 24) = w2 := ⟨_, rfl⟩
    have hC : Chg Non w w2 := hc1.non (hw2 ▸ (Chg.refl _ _).alloc _)
    have hb2 : Blk w2 w1.heap.size 24 #[.int .i64 0, .int .i64 n, .int .i64 0, .int .i64 0, .int .i64 0, .slice none 0 0] := hw2 ▸ Blk.new _ _ _
    have x0 := hb2.cell 0
    have x1 := hb2.cell 1
    have x2 := hb2.cell 2
    have x3 := hb2.cell 3
    have x4 := hb2.cell 4
    have x5 := hb2.cell 5
    simp only [frC, List.getElem?_toArray, List.getElem?_cons_zero, List.getElem?_cons_succ] at x0 x1 x2 x3 x4 x5
    go_wp2_with fail
    clear hw2 hb2 x0 x1 x2 x3 x4 x5
    refine (pack_any _ ⟨0, n, 0, 0, 0, []⟩ none 0 0 Rds.nil_ (Nat.le_refl _) (by unfold maxLen; omega)).mono ?_
    rintro e w8 ⟨v8, rfl, hown8, hc8⟩
    obtain ⟨A8, n8, c8, rfl, hn8, hnc8, hcm8, hr8⟩ := hown8.open_
    have hlen8 := pack_zero (f := ⟨0, n, 0, 0, 0, []⟩) (by rw [herr]; decide)
    obtain rfl : n8 = 0 := by have := hn8.out; omega
    rw [herr]
    clear hlen8 hown8 hr8 herr
    go_wp2_with fail
    refine (num_any _ _).mono ?_
    rintro e w9 ⟨rfl, rfl⟩
    go_wp2_with fail
    go_ret
    exact ⟨by first | rfl | (show Ending.returned (.bool (decide (0 < n8))) = _; rw [decide_eq_true (by omega)]) | (show Ending.returned (.bool (decide (0 < (n8 : Int)))) = _; rw [decide_eq_true (by omega)]) | (show Ending.returned (.bool (!decide (n ≤ 4096))) = _; rw [decide_eq_false (by omega)]; rfl) | (show Ending.returned (.bool (!decide ((n : Int) ≤ 15))) = _; rw [decide_eq_false (by omega)]; rfl), hC.non hc8⟩
theorem frameEnds_2 (w : World) (n : Int) (hn : i64 n) : Calls Try.prog 6 #[.int .i64 2, .int .i64 n] w fun e w2 => e = .returned (.bool true) ∧ Chg Non w w2 := by
  unfold i64 at hn
  have hE := err_one (f := ⟨0, 0, n, 0, 0, []⟩) (n := n) (m := 2147483647) (by unfold Fr.fine nodeB numB; simp [upto]) rfl
  have hcase : (0 ≤ n ∧ n ≤ 2147483647) ∨ n < 0 ∨ (0 ≤ n ∧ 2147483647 < n) := by omega
  rcases hcase with ⟨h0, h1⟩ | h0 | ⟨h0, h1⟩
  · have herr := hE.1 ⟨h0, h1⟩
    clear hE
    go_enter Try.func6, Try.ntmps6
    go_wp2_with fail
    refine (frame_alive w).mono ?_
    rintro e w1 ⟨rfl, hc1⟩
    obtain ⟨w2, hw2⟩ : ∃ w2, w1.alloc (.cells #[.int .i64 0, .int .i64 0, .int .i64 n, .int .i64 0, .int .i64 0, .slice none 0 0] 24) = w2 := ⟨_, rfl⟩
    have hC : Chg Non w w2 := hc1.non (hw2 ▸ (Chg.refl _ _).alloc _)
    have hb2 : Blk w2 w1.heap.size 24 #[.int .i64 0, .int .i64 0, .int .i64 n, .int .i64 0, .int .i64 0, .slice none 0 0] := hw2 ▸ Blk.new _ _ _
    have x0 := hb2.cell 0
    have x1 := hb2.cell 1
    have x2 := hb2.cell 2
    have x3 := hb2.cell 3
    have x4 := hb2.cell 4
    have x5 := hb2.cell 5
    simp only [frC, List.getElem?_toArray, List.getElem?_cons_zero, List.getElem?_cons_succ] at x0 x1 x2 x3 x4 x5
    go_wp2_with fail
    clear hw2 hb2 x0 x1 x2 x3 x4 x5
    refine (pack_any _ ⟨0, 0, n, 0, 0, []⟩ none 0 0 Rds.nil_ (Nat.le_refl _) (by unfold maxLen; omega)).mono ?_
    rintro e w8 ⟨v8, rfl, hown8, hc8⟩
    obtain ⟨A8, n8, c8, rfl, hn8, hnc8, hcm8, hr8⟩ := hown8.open_
    have hlen8 := pack_pos herr
    have hp8 : 1 ≤ n8 := by have := hn8.out; omega
    have hq8 : n8 ≤ 5000 := by have := hn8.out; omega
    rw [herr]
    clear hlen8 hown8 hr8 herr
    go_wp2_with fail
    refine (num_any _ _).mono ?_
    rintro e w9 ⟨rfl, rfl⟩
    go_wp2_with fail
    go_ret
    exact ⟨by first | rfl | (show Ending.returned (.bool (decide (0 < n8))) = _; rw [decide_eq_true (by omega)]) | (show Ending.returned (.bool (decide (0 < (n8 : Int)))) = _; rw [decide_eq_true (by omega)]) | (show Ending.returned (.bool (!decide (n ≤ 4096))) = _; rw [decide_eq_false (by omega)]; rfl) | (show Ending.returned (.bool (!decide ((n : Int) ≤ 2147483647))) = _; rw [decide_eq_false (by omega)]; rfl), hC.non hc8⟩
  · have herr := hE.2 (by omega)
    clear hE
    go_enter Try.func6, Try.ntmps6
    go_wp2_with fail
    refine (frame_alive w).mono ?_
    rintro e w1 ⟨rfl, hc1⟩
    obtain ⟨w2, hw2⟩ : ∃ w2, w1.alloc (.cells #[.int .i64 0, .int .i64 0, .int .i64 n, .int .i64 0, .int .i64 0, .slice none 0 0] 24) = w2 := ⟨_, rfl⟩
    have hC : Chg Non w w2 := hc1.non (hw2 ▸ (Chg.refl _ _).alloc _)
    have hb2 : Blk w2 w1.heap.size 24 #[.int .i64 0, .int .i64 0, .int .i64 n, .int .i64 0, .int .i64 0, .slice none 0 0] := hw2 ▸ Blk.new _ _ _
    have x0 := hb2.cell 0
    have x1 := hb2.cell 1
    have x2 := hb2.cell 2
    have x3 := hb2.cell 3
    have x4 := hb2.cell 4
    have x5 := hb2.cell 5
    simp only [frC, List.getElem?_toArray, List.getElem?_cons_zero, List.getElem?_cons_succ] at x0 x1 x2 x3 x4 x5
    go_wp2_with fail
    clear hw2 hb2 x0 x1 x2 x3 x4 x5
    refine (pack_any _ ⟨0, 0, n, 0, 0, []⟩ none 0 0 Rds.nil_ (Nat.le_refl _) (by unfold maxLen; omega)).mono ?_
    rintro e w8 ⟨v8, rfl, hown8, hc8⟩
    obtain ⟨A8, n8, c8, rfl, hn8, hnc8, hcm8, hr8⟩ := hown8.open_
    have hlen8 := pack_zero (f := ⟨0, 0, n, 0, 0, []⟩) (by rw [herr]; decide)
    obtain rfl : n8 = 0 := by have := hn8.out; omega
    rw [herr]
    clear hlen8 hown8 hr8 herr
    go_wp2_with fail
    refine (num_any _ _).mono ?_
    rintro e w9 ⟨rfl, rfl⟩
    go_wp2_with fail
    go_ret
    exact ⟨by first | rfl | (show Ending.returned (.bool (decide (0 < n8))) = _; rw [decide_eq_true (by omega)]) | (show Ending.returned (.bool (decide (0 < (n8 : Int)))) = _; rw [decide_eq_true (by omega)]) | (show Ending.returned (.bool (!decide (n ≤ 4096))) = _; rw [decide_eq_false (by omega)]; rfl) | (show Ending.returned (.bool (!decide ((n : Int) ≤ 2147483647))) = _; rw [decide_eq_false (by omega)]; rfl), hC.non hc8⟩
  · have herr := hE.2 (by omega)
    clear hE
    go_enter Try.func6, Try.ntmps6
    go_wp2_with fail
    refine (frame_alive w).mono ?_
    rintro e w1 ⟨rfl, hc1⟩
    obtain ⟨w2, hw2⟩ : ∃ w2, w1.alloc (.cells #[.int .i64 0, .int .i64 0, .int .i64 n, .int .i64 0, .int .i64 0, .slice none 0 0] 24) = w2 := ⟨_, rfl⟩
    have hC : Chg Non w w2 := hc1.non (hw2 ▸ (Chg.refl _ _).alloc _)
    have hb2 : Blk w2 w1.heap.size 24 #[.int .i64 0, .int .i64 0, .int .i64 n, .int .i64 0, .int .i64 0, .slice none 0 0] := hw2 ▸ Blk.new _ _ _
    have x0 := hb2.cell 0
    have x1 := hb2.cell 1
    have x2 := hb2.cell 2
    have x3 := hb2.cell 3
    have x4 := hb2.cell 4
    have x5 := hb2.cell 5
    simp only [frC, List.getElem?_toArray, List.getElem?_cons_zero, List.getElem?_cons_succ] at x0 x1 x2 x3 x4 x5
    go_wp2_with fail
    clear hw2 hb2 x0 x1 x2 x3 x4 x5
    refine (pack_any _ ⟨0, 0, n, 0, 0, []⟩ none 0 0 Rds.nil_ (Nat.le_refl _) (by unfold maxLen; omega)).mono ?_
    rintro e w8 ⟨v8, rfl, hown8, hc8⟩
    obtain ⟨A8, n8, c8, rfl, hn8, hnc8, hcm8, hr8⟩ := hown8.open_
    have hlen8 := pack_zero (f := ⟨0, 0, n, 0, 0, []⟩) (by rw [herr]; decide)
    obtain rfl : n8 = 0 := by have := hn8.out; omega
    rw [herr]
    clear hlen8 hown8 hr8 herr
    go_wp2_with fail
    refine (num_any _ _).mono ?_
    rintro e w9 ⟨rfl, rfl⟩
    go_wp2_with fail
    go_ret
    exact ⟨by first | rfl | (show Ending.returned (.bool (decide (0 < n8))) = _; rw [decide_eq_true (by omega)]) | (show Ending.returned (.bool (decide (0 < (n8 : Int)))) = _; rw [decide_eq_true (by omega)]) | (show Ending.returned (.bool (!decide (n ≤ 4096))) = _; rw [decide_eq_false (by omega)]; rfl) | (show Ending.returned (.bool (!decide ((n : Int) ≤ 2147483647))) = _; rw [decide_eq_false (by omega)]; rfl), hC.non hc8⟩
theorem frameEnds_3 (w : World) (n : Int) (hn : i64 n) : Calls Try.prog 6 #[.int .i64 3, .int .i64 n] w fun e w2 => e = .returned (.bool true) ∧ Chg Non w w2 := by
  unfold i64 at hn
  have hE := err_one (f := ⟨0, 0, 0, n, 0, []⟩) (n := n) (m := 2147483647) (by unfold Fr.fine nodeB numB; simp [upto]) rfl
  have hcase : (0 ≤ n ∧ n ≤ 2147483647) ∨ n < 0 ∨ (0 ≤ n ∧ 2147483647 < n) := by omega
  rcases hcase with ⟨h0, h1⟩ | h0 | ⟨h0, h1⟩
  · have herr := hE.1 ⟨h0, h1⟩
    clear hE
    go_enter Try.func6, Try.ntmps6
    go_wp2_with fail
    refine (frame_alive w).mono ?_
    rintro e w1 ⟨rfl, hc1⟩
    obtain ⟨w2, hw2⟩ : ∃ w2, w1.alloc (.cells #[.int .i64 0, .int .i64 0, .int .i64 0, .int .i64 n, .int .i64 0, .slice none 0 0] 24) = w2 := ⟨_, rfl⟩
    have hC : Chg Non w w2 := hc1.non (hw2 ▸ (Chg.refl _ _).alloc _)
    have hb2 : Blk w2 w1.heap.size 24 #[.int .i64 0, .int .i64 0, .int .i64 0, .int .i64 n, .int .i64 0, .slice none 0 0] := hw2 ▸ Blk.new _ _ _
    have x0 := hb2.cell 0
    have x1 := hb2.cell 1
    have x2 := hb2.cell 2
    have x3 := hb2.cell 3
    have x4 := hb2.cell 4
    have x5 := hb2.cell 5
    simp only [frC, List.getElem?_toArray, List.getElem?_cons_zero, List.getElem?_cons_succ] at x0 x1 x2 x3 x4 x5
    go_wp2_with fail
    clear hw2 hb2 x0 x1 x2 x3 x4 x5
    refine (pack_any _ ⟨0, 0, 0, n, 0, []⟩ none 0 0 Rds.nil_ (Nat.le_refl _) (by unfold maxLen; omega)).mono ?_
    rintro e w8 ⟨v8, rfl, hown8, hc8⟩
    obtain ⟨A8, n8, c8, rfl, hn8, hnc8, hcm8, hr8⟩ := hown8.open_
    have hlen8 := pack_pos herr
    have hp8 : 1 ≤ n8 := by have := hn8.out; omega
    have hq8 : n8 ≤ 5000 := by have := hn8.out; omega
    rw [herr]
    clear hlen8 hown8 hr8 herr
    go_wp2_with fail
    refine (num_any _ _).mono ?_
    rintro e w9 ⟨rfl, rfl⟩
    go_wp2_with fail
    go_ret
    exact ⟨by first | rfl | (show Ending.returned (.bool (decide (0 < n8))) = _; rw [decide_eq_true (by omega)]) | (show Ending.returned (.bool (decide (0 < (n8 : Int)))) = _; rw [decide_eq_true (by omega)]) | (show Ending.returned (.bool (!decide (n ≤ 4096))) = _; rw [decide_eq_false (by omega)]; rfl) | (show Ending.returned (.bool (!decide ((n : Int) ≤ 2147483647))) = _; rw [decide_eq_false (by omega)]; rfl), hC.non hc8⟩
  · have herr := hE.2 (by omega)
    clear hE
    go_enter Try.func6, Try.ntmps6
    go_wp2_with fail
    refine (frame_alive w).mono ?_
    rintro e w1 ⟨rfl, hc1⟩
    obtain ⟨w2, hw2⟩ : ∃ w2, w1.alloc (.cells #[.int .i64 0, .int .i64 0, .int .i64 0, .int .i64 n, .int .i64 0, .slice none 0 0] 24) = w2 := ⟨_, rfl⟩
    have hC : Chg Non w w2 := hc1.non (hw2 ▸ (Chg.refl _ _).alloc _)
    have hb2 : Blk w2 w1.heap.size 24 #[.int .i64 0, .int .i64 0, .int .i64 0, .int .i64 n, .int .i64 0, .slice none 0 0] := hw2 ▸ Blk.new _ _ _
    have x0 := hb2.cell 0
    have x1 := hb2.cell 1
    have x2 := hb2.cell 2
    have x3 := hb2.cell 3
    have x4 := hb2.cell 4
    have x5 := hb2.cell 5
    simp only [frC, List.getElem?_toArray, List.getElem?_cons_zero, List.getElem?_cons_succ] at x0 x1 x2 x3 x4 x5
    go_wp2_with fail
    clear hw2 hb2 x0 x1 x2 x3 x4 x5
    refine (pack_any _ ⟨0, 0, 0, n, 0, []⟩ none 0 0 Rds.nil_ (Nat.le_refl _) (by unfold maxLen; omega)).mono ?_
    rintro e w8 ⟨v8, rfl, hown8, hc8⟩
    obtain ⟨A8, n8, c8, rfl, hn8, hnc8, hcm8, hr8⟩ := hown8.open_
    have hlen8 := pack_zero (f := ⟨0, 0, 0, n, 0, []⟩) (by rw [herr]; decide)
    obtain rfl : n8 = 0 := by have := hn8.out; omega
    rw [herr]
    clear hlen8 hown8 hr8 herr
    go_wp2_with fail
    refine (num_any _ _).mono ?_
    rintro e w9 ⟨rfl, rfl⟩
    go_wp2_with fail
    go_ret
    exact ⟨by first | rfl | (show Ending.returned (.bool (decide (0 < n8))) = _; rw [decide_eq_true (by omega)]) | (show Ending.returned (.bool (decide (0 < (n8 : Int)))) = _; rw [decide_eq_true (by omega)]) | (show Ending.returned (.bool (!decide (n ≤ 4096))) = _; rw [decide_eq_false (by omega)]; rfl) | (show Ending.returned (.bool (!decide ((n : Int) ≤ 2147483647))) = _; rw [decide_eq_false (by omega)]; rfl), hC.non hc8⟩
  · have herr := hE.2 (by omega)
    clear hE
    go_enter Try.func6, Try.ntmps6
    go_wp2_with fail
    refine (frame_alive w).mono ?_
    rintro e w1 ⟨rfl, hc1⟩
    obtain ⟨w2, hw2⟩ : ∃ w2, w1.alloc (.cells #[.int .i64 0, .int .i64 0, .int .i64 0, .int .i64 n, .int .i64 0, .slice none 0 0] 24) = w2 := ⟨_, rfl⟩
    have hC : Chg Non w w2 := hc1.non (hw2 ▸ (Chg.refl _ _).alloc _)
    have hb2 : Blk w2 w1.heap.size 24 #[.int .i64 0, .int .i64 0, .int .i64 0, .int .i64 n, .int .i64 0, .slice none 0 0] := hw2 ▸ Blk.new _ _ _
    have x0 := hb2.cell 0
    have x1 := hb2.cell 1
    have x2 := hb2.cell 2
    have x3 := hb2.cell 3
    have x4 := hb2.cell 4
    have x5 := hb2.cell 5
    simp only [frC, List.getElem?_toArray, List.getElem?_cons_zero, List.getElem?_cons_succ] at x0 x1 x2 x3 x4 x5
    go_wp2_with fail
    clear hw2 hb2 x0 x1 x2 x3 x4 x5
    refine (pack_any _ ⟨0, 0, 0, n, 0, []⟩ none 0 0 Rds.nil_ (Nat.le_refl _) (by unfold maxLen; omega)).mono ?_
    rintro e w8 ⟨v8, rfl, hown8, hc8⟩
    obtain ⟨A8, n8, c8, rfl, hn8, hnc8, hcm8, hr8⟩ := hown8.open_
    have hlen8 := pack_zero (f := ⟨0, 0, 0, n, 0, []⟩) (by rw [herr]; decide)
    obtain rfl : n8 = 0 := by have := hn8.out; omega
    rw [herr]
    clear hlen8 hown8 hr8 herr
    go_wp2_with fail
    refine (num_any _ _).mono ?_
    rintro e w9 ⟨rfl, rfl⟩
    go_wp2_with fail
    go_ret
    exact ⟨by first | rfl | (show Ending.returned (.bool (decide (0 < n8))) = _; rw [decide_eq_true (by omega)]) | (show Ending.returned (.bool (decide (0 < (n8 : Int)))) = _; rw [decide_eq_true (by omega)]) | (show Ending.returned (.bool (!decide (n ≤ 4096))) = _; rw [decide_eq_false (by omega)]; rfl) | (show Ending.returned (.bool (!decide ((n : Int) ≤ 2147483647))) = _; rw [decide_eq_false (by omega)]; rfl), hC.non hc8⟩
theorem frameEnds_4 (w : World) (n : Int) (hn : i64 n) : Calls Try.prog 6 #[.int .i64 4, .int .i64 n] w fun e w2 => e = .returned (.bool true) ∧ Chg Non w w2 := by
  unfold i64 at hn
  have hE := err_one (f := ⟨0, 0, 0, 0, n, []⟩) (n := n) (m := 2147483647) (by unfold Fr.fine nodeB numB; simp [upto]) rfl
  have hcase : (0 ≤ n ∧ n ≤ 2147483647) ∨ n < 0 ∨ (0 ≤ n ∧ 2147483647 < n) := by omega
  rcases hcase with ⟨h0, h1⟩ | h0 | ⟨h0, h1⟩
  · have herr := hE.1 ⟨h0, h1⟩
    clear hE
    go_enter Try.func6, Try.ntmps6
    go_wp2_with fail
    refine (frame_alive w).mono ?_
    rintro e w1 ⟨rfl, hc1⟩
    obtain ⟨w2, hw2⟩ : ∃ w2, w1.alloc (.cells #[.int .i64 0, .int .i64 0, .int .i64 0, .int .i64 0, .int .i64 n, .slice none 0 0] 24) = w2 := ⟨_, rfl⟩
    have hC : Chg Non w w2 := hc1.non (hw2 ▸ (Chg.refl _ _).alloc _)
    have hb2 : Blk w2 w1.heap.size 24 #[.int .i64 0, .int .i64 0, .int .i64 0, .int .i64 0, .int .i64 n, .slice none 0 0] := hw2 ▸ Blk.new _ _ _
    have x0 := hb2.cell 0
    have x1 := hb2.cell 1
    have x2 := hb2.cell 2
    have x3 := hb2.cell 3
    have x4 := hb2.cell 4
    have x5 := hb2.cell 5
    simp only [frC, List.getElem?_toArray, List.getElem?_cons_zero, List.getElem?_cons_succ] at x0 x1 x2 x3 x4 x5
    go_wp2_with fail
    clear hw2 hb2 x0 x1 x2 x3 x4 x5
    refine (pack_any _ ⟨0, 0, 0, 0, n, []⟩ none 0 0 Rds.nil_ (Nat.le_refl _) (by unfold maxLen; omega)).mono ?_
    rintro e w8 ⟨v8, rfl, hown8, hc8⟩
    obtain ⟨A8, n8, c8, rfl, hn8, hnc8, hcm8, hr8⟩ := hown8.open_
    have hlen8 := pack_pos herr
    have hp8 : 1 ≤ n8 := by have := hn8.out; omega
    have hq8 : n8 ≤ 5000 := by have := hn8.out; omega
    rw [herr]
    clear hlen8 hown8 hr8 herr
    go_wp2_with fail
    refine (num_any _ _).mono ?_
    rintro e w9 ⟨rfl, rfl⟩
    go_wp2_with fail
    go_ret
    exact ⟨by first | rfl | (show Ending.returned (.bool (decide (0 < n8))) = _; rw [decide_eq_true (by omega)]) | (show Ending.returned (.bool (decide (0 < (n8 : Int)))) = _; rw [decide_eq_true (by omega)]) | (show Ending.returned (.bool (!decide (n ≤ 4096))) = _; rw [decide_eq_false (by omega)]; rfl) | (show Ending.returned (.bool (!decide ((n : Int) ≤ 2147483647))) = _; rw [decide_eq_false (by omega)]; rfl), hC.non hc8⟩
  · have herr := hE.2 (by omega)
    clear hE
    go_enter Try.func6, Try.ntmps6
    go_wp2_with fail
    refine (frame_alive w).mono ?_
    rintro e w1 ⟨rfl, hc1⟩
    obtain ⟨w2, hw2⟩ : ∃ w2, w1.alloc (.cells #[.int .i64 0, .int .i64 0, .int .i64 0, .int .i64 0, .int .i64 n, .slice none 0 0] 24) = w2 := ⟨_, rfl⟩
    have hC : Chg Non w w2 := hc1.non (hw2 ▸ (Chg.refl _ _).alloc _)
    have hb2 : Blk w2 w1.heap.size 24 #[.int .i64 0, .int .i64 0, .int .i64 0, .int .i64 0, .int .i64 n, .slice none 0 0] := hw2 ▸ Blk.new _ _ _
    have x0 := hb2.cell 0
    have x1 := hb2.cell 1
    have x2 := hb2.cell 2
    have x3 := hb2.cell 3
    have x4 := hb2.cell 4
    have x5 := hb2.cell 5
    simp only [frC, List.getElem?_toArray, List.getElem?_cons_zero, List.getElem?_cons_succ] at x0 x1 x2 x3 x4 x5
    go_wp2_with fail
    clear hw2 hb2 x0 x1 x2 x3 x4 x5
    refine (pack_any _ ⟨0, 0, 0, 0, n, []⟩ none 0 0 Rds.nil_ (Nat.le_refl _) (by unfold maxLen; omega)).mono ?_
    rintro e w8 ⟨v8, rfl, hown8, hc8⟩
    obtain ⟨A8, n8, c8, rfl, hn8, hnc8, hcm8, hr8⟩ := hown8.open_
    have hlen8 := pack_zero (f := ⟨0, 0, 0, 0, n, []⟩) (by rw [herr]; decide)
    obtain rfl : n8 = 0 := by have := hn8.out; omega
    rw [herr]
    clear hlen8 hown8 hr8 herr
    go_wp2_with fail
    refine (num_any _ _).mono ?_
    rintro e w9 ⟨rfl, rfl⟩
    go_wp2_with fail
    go_ret
    exact ⟨by first | rfl | (show Ending.returned (.bool (decide (0 < n8))) = _; rw [decide_eq_true (by omega)]) | (show Ending.returned (.bool (decide (0 < (n8 : Int)))) = _; rw [decide_eq_true (by omega)]) | (show Ending.returned (.bool (!decide (n ≤ 4096))) = _; rw [decide_eq_false (by omega)]; rfl) | (show Ending.returned (.bool (!decide ((n : Int) ≤ 2147483647))) = _; rw [decide_eq_false (by omega)]; rfl), hC.non hc8⟩
  · have herr := hE.2 (by omega)
    clear hE
    go_enter Try.func6, Try.ntmps6
    go_wp2_with fail
    refine (frame_alive w).mono ?_
    rintro e w1 ⟨rfl, hc1⟩
    obtain ⟨w2, hw2⟩ : ∃ w2, w1.alloc (.cells #[.int .i64 0, .int .i64 0, .int .i64 0, .int .i64 0, .int .i64 n, .slice none 0 0] 24) = w2 := ⟨_, rfl⟩
    have hC : Chg Non w w2 := hc1.non (hw2 ▸ (Chg.refl _ _).alloc _)
    have hb2 : Blk w2 w1.heap.size 24 #[.int .i64 0, .int .i64 0, .int .i64 0, .int .i64 0, .int .i64 n, .slice none 0 0] := hw2 ▸ Blk.new _ _ _
    have x0 := hb2.cell 0
    have x1 := hb2.cell 1
    have x2 := hb2.cell 2
    have x3 := hb2.cell 3
    have x4 := hb2.cell 4
    have x5 := hb2.cell 5
    simp only [frC, List.getElem?_toArray, List.getElem?_cons_zero, List.getElem?_cons_succ] at x0 x1 x2 x3 x4 x5
    go_wp2_with fail
    clear hw2 hb2 x0 x1 x2 x3 x4 x5
    refine (pack_any _ ⟨0, 0, 0, 0, n, []⟩ none 0 0 Rds.nil_ (Nat.le_refl _) (by unfold maxLen; omega)).mono ?_
    rintro e w8 ⟨v8, rfl, hown8, hc8⟩
    obtain ⟨A8, n8, c8, rfl, hn8, hnc8, hcm8, hr8⟩ := hown8.open_
    have hlen8 := pack_zero (f := ⟨0, 0, 0, 0, n, []⟩) (by rw [herr]; decide)
    obtain rfl : n8 = 0 := by have := hn8.out; omega
    rw [herr]
    clear hlen8 hown8 hr8 herr
    go_wp2_with fail
    refine (num_any _ _).mono ?_
    rintro e w9 ⟨rfl, rfl⟩
    go_wp2_with fail
    go_ret
    exact ⟨by first | rfl | (show Ending.returned (.bool (decide (0 < n8))) = _; rw [decide_eq_true (by omega)]) | (show Ending.returned (.bool (decide (0 < (n8 : Int)))) = _; rw [decide_eq_true (by omega)]) | (show Ending.returned (.bool (!decide (n ≤ 4096))) = _; rw [decide_eq_false (by omega)]; rfl) | (show Ending.returned (.bool (!decide ((n : Int) ≤ 2147483647))) = _; rw [decide_eq_false (by omega)]; rfl), hC.non hc8⟩
theorem mk_bytes (n : Nat) (hn : n ≤ 6000) (w : World) : (Instr.makeSlice 22 (.int .i64 (n : Int)) (.int .i64 (n : Int))).run Try.prog w = .ok (.slice (some ⟨w.heap.size, 0, none⟩) n n) (w.alloc (.cells (madeCells #[.int .u8 0] n) 5)) := by
  obtain ⟨i0, hi, hz0, hz1, hz2⟩ := info_parts info_u8
  have h := run_makeSlice (P := Try.prog) (w := w) 22 5 i0 (.int .u8 0) Try.underlying22 hi hz0 .i64 .i64 (n : Int) (n : Int) (by omega) (Int.le_refl _) (by rw [hz1]; simp; omega) (by rw [hz2]; omega) (by omega)
  simp only [Int.toNat_natCast, hz1, Nat.mul_one] at h
  exact h
theorem bv_zeros (n : Nat) : bv (List.replicate n 0) = List.replicate n (.int .u8 0) := by simp [bv]
theorem err_load (n : Nat) : (n ≤ 4096 → Fr.err ⟨0, 0, 0, 0, 0, List.replicate n 0⟩ = 0) ∧ (4096 < n → Fr.err ⟨0, 0, 0, 0, 0, List.replicate n 0⟩ = 3) := by
  have hf : Fr.fine ⟨0, 0, 0, 0, 0, List.replicate n 0⟩ = true := rfl
  constructor
  · intro h; exact Fr.err0.2 ⟨hf, by simpa using h⟩
  · intro h; exact Fr.err_long hf (by simpa using h)

set_option maxRecDepth 100000 in
set_option maxHeartbeats 1000000 in
theorem frameEnds_load (w : World) (x : Int) (n : Nat) (hn : n ≤ 6000) (h0 : (x == 0) = false) (h1 : (x == 1) = false) (h2 : (x == 2) = false) (h3 : (x == 3) = false) (h4 : (x == 4) = false) : Calls Try.prog 6 #[.int .i64 x, .int .i64 (n : Int)] w fun e w2 => e = .returned (.bool true) ∧ Chg Non w w2 := by
  have hE := err_load n
  rcases Nat.lt_or_ge 4096 n with hl | hl
  · have herr := hE.2 hl
    clear hE
    have hmk := mk_bytes n hn
    go_enter Try.func6, Try.ntmps6
    go_wp2_with fail
    refine (frame_alive w).mono ?_
    rintro e w1 ⟨rfl, hc1⟩
    go_wp2_with fail
    have hcA : Chg Non w1 ((w1.alloc (.cells #[.int .i64 0, .int .i64 0, .int .i64 0, .int .i64 0, .int .i64 0, .slice (some ⟨w1.heap.size + 1, 0, none⟩) n n] 24)).alloc (.cells (madeCells #[.int .u8 0] n) 5)) := ((Chg.refl _ _).alloc _).alloc _
    have hbM := Blk.new (w1.alloc (.cells #[.int .i64 0, .int .i64 0, .int .i64 0, .int .i64 0, .int .i64 0, .slice (some ⟨w1.heap.size + 1, 0, none⟩) n n] 24)) 5 (madeCells #[.int .u8 0] n)
    rw [World.size_alloc] at hbM
    have hrM := Rds.block hbM (size_madeCells _ _)
    rw [toList_madeCells_one, ← bv_zeros] at hrM
    have hC := hc1.non hcA
    clear hmk hcA hbM
    refine (pack_any _ ⟨0, 0, 0, 0, 0, List.replicate n 0⟩ _ n n hrM (Nat.le_refl _) (by unfold maxLen; omega)).mono ?_
    rintro e w8 ⟨v8, rfl, hown8, hc8⟩
    obtain ⟨A8, n8, c8, rfl, hn8, hnc8, hcm8, hr8⟩ := hown8.open_
    have hlen8 := pack_zero (f := ⟨0, 0, 0, 0, 0, List.replicate n 0⟩) (by rw [herr]; decide)
    obtain rfl : n8 = 0 := by have := hn8.out; omega
    rw [herr]
    clear hlen8 hown8 hr8 herr
    go_wp2_with fail
    refine (num_any _ _).mono ?_
    rintro e w9 ⟨rfl, rfl⟩
    go_wp2_with fail
    go_ret
    exact ⟨by first | rfl | (show Ending.returned (.bool (decide (0 < n8))) = _; rw [decide_eq_true (by omega)]) | (show Ending.returned (.bool (decide (0 < (n8 : Int)))) = _; rw [decide_eq_true (by omega)]) | (show Ending.returned (.bool (!decide (n ≤ 4096))) = _; rw [decide_eq_false (by omega)]; rfl) | (show Ending.returned (.bool (!decide ((n : Int) ≤ 4096))) = _; rw [decide_eq_false (by omega)]; rfl), hC.non hc8⟩
  · have herr := hE.1 hl
    clear hE
    have hmk := mk_bytes n hn
    go_enter Try.func6, Try.ntmps6
    go_wp2_with fail
    refine (frame_alive w).mono ?_
    rintro e w1 ⟨rfl, hc1⟩
    go_wp2_with fail
    have hcA : Chg Non w1 ((w1.alloc (.cells #[.int .i64 0, .int .i64 0, .int .i64 0, .int .i64 0, .int .i64 0, .slice (some ⟨w1.heap.size + 1, 0, none⟩) n n] 24)).alloc (.cells (madeCells #[.int .u8 0] n) 5)) := ((Chg.refl _ _).alloc _).alloc _
    have hbM := Blk.new (w1.alloc (.cells #[.int .i64 0, .int .i64 0, .int .i64 0, .int .i64 0, .int .i64 0, .slice (some ⟨w1.heap.size + 1, 0, none⟩) n n] 24)) 5 (madeCells #[.int .u8 0] n)
    rw [World.size_alloc] at hbM
    have hrM := Rds.block hbM (size_madeCells _ _)
    rw [toList_madeCells_one, ← bv_zeros] at hrM
    have hC := hc1.non hcA
    clear hmk hcA hbM
    refine (pack_any _ ⟨0, 0, 0, 0, 0, List.replicate n 0⟩ _ n n hrM (Nat.le_refl _) (by unfold maxLen; omega)).mono ?_
    rintro e w8 ⟨v8, rfl, hown8, hc8⟩
    obtain ⟨A8, n8, c8, rfl, hn8, hnc8, hcm8, hr8⟩ := hown8.open_
    have hlen8 := pack_pos herr
    have hp8 : 1 ≤ n8 := by have := hn8.out; omega
    have hq8 : n8 ≤ 5000 := by have := hn8.out; omega
    rw [herr]
    clear hlen8 hown8 hr8 herr
    go_wp2_with fail
    refine (num_any _ _).mono ?_
    rintro e w9 ⟨rfl, rfl⟩
    go_wp2_with fail
    go_ret
    exact ⟨by first | rfl | (show Ending.returned (.bool (decide (0 < n8))) = _; rw [decide_eq_true (by omega)]) | (show Ending.returned (.bool (decide (0 < (n8 : Int)))) = _; rw [decide_eq_true (by omega)]) | (show Ending.returned (.bool (!decide (n ≤ 4096))) = _; rw [decide_eq_false (by omega)]; rfl) | (show Ending.returned (.bool (!decide ((n : Int) ≤ 4096))) = _; rw [decide_eq_false (by omega)]; rfl), hC.non hc8⟩

theorem frameEnds_walk (w : World) (x : Int) (hx : i64 x) (n : Int) (hn : i64 n) : Calls Try.prog 6 #[.int .i64 x, .int .i64 n] w fun e w2 => e = .returned (.bool true) ∧ Chg Non w w2 := by
  by_cases h0 : x = 0
  · subst h0; exact frameEnds_0 w n hn
  by_cases h1 : x = 1
  · subst h1; exact frameEnds_1 w n hn
  by_cases h2 : x = 2
  · subst h2; exact frameEnds_2 w n hn
  by_cases h3 : x = 3
  · subst h3; exact frameEnds_3 w n hn
  by_cases h4 : x = 4
  · subst h4; exact frameEnds_4 w n hn
  have g0 : (x == 0) = false := beq_eq_false_iff_ne.2 h0
  have g1 : (x == 1) = false := beq_eq_false_iff_ne.2 h1
  have g2 : (x == 2) = false := beq_eq_false_iff_ne.2 h2
  have g3 : (x == 3) = false := beq_eq_false_iff_ne.2 h3
  have g4 : (x == 4) = false := beq_eq_false_iff_ne.2 h4
  clear h0 h1 h2 h3 h4
  by_cases hr : 0 ≤ n ∧ n ≤ 6000
  · obtain ⟨k, rfl⟩ : ∃ k : Nat, n = k := ⟨n.toNat, by omega⟩
    exact frameEnds_load w x k (by omega) g0 g1 g2 g3 g4
  · have hcase : n < 0 ∨ (0 ≤ n ∧ 6000 < n) := by omega
    clear hr
    rcases hcase with h | ⟨h, h'⟩
    all_goals
      go_enter Try.func6, Try.ntmps6
      go_wp2_with fail
      refine (frame_alive w).mono ?_
      rintro e w1 ⟨rfl, hc1⟩
      go_wp2_with fail
      go_ret
      exact ⟨rfl, hc1.alloc _⟩
end Go.Proofs.Ytdllocgonjbmlaa
