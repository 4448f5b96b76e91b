/-
  gleanerlaw10.FramePacks: the walk.
-/
import Derived.Test.YtdllocgonjbmlaaFrameAlive
namespace Go.Proofs.Ytdllocgonjbmlaa
open Go.RowKit
set_option linter.unusedVariables false
set_option linter.unusedSimpArgs false

set_option maxRecDepth 100000 in
set_option maxHeartbeats 1000000 in
theorem framePacks_core (w : World) (f : Fr) (A : Option Addr) (n c : Nat) (hr : Rds w 1 A n (bv f.load)) (hc : n ≤ c) (hcm : c ≤ maxLen) (hn : n ≤ 6000) :
    Calls Try.prog 3 #[frV f A n c] w fun e w2 => e = .returned (.bool true) ∧ Chg Non w w2 := by
  obtain ⟨w1, hw1⟩ : ∃ w9, w.alloc (.cells (frC f A n c) 24) = w9 := ⟨_, rfl⟩
  have hc1 : Chg Non w w1 := hw1 ▸ (Chg.refl _ _).alloc _
  have hb1 : Blk w1 w.heap.size 24 (frC f A n c) := hw1 ▸ Blk.new _ _ _
  unfold frC at hw1
  go_enter Try.func3, Try.ntmps3
  go_wp2_with fail
  refine (frame_alive w1).mono ?_
  rintro e w2 ⟨rfl, hc2⟩
  have hb2 := hb1.non hc2
  have hC2 := hc1.non hc2
  have hr2 := hr.non hC2
  have y0 := hb2.cell 0
  have y1 := hb2.cell 1
  have y2 := hb2.cell 2
  have y3 := hb2.cell 3
  have y4 := hb2.cell 4
  have y5 := hb2.cell 5
  simp only [frC, List.getElem?_toArray, List.getElem?_cons_zero, List.getElem?_cons_succ] at y0 y1 y2 y3 y4 y5
  clear hw1 hc1 hb1 hc2 hr
  go_wp2_with fail
  refine (pack_any w2 f A n c hr2 hc hcm).mono ?_
  rintro e w3 ⟨v3, rfl, hown3, hc3⟩
  obtain ⟨A3, n3, c3, rfl, hn3, hnc3, hcm3, hr3⟩ := hown3.open_
  have hb3 := hb2.non hc3
  have hC3 := hC2.non hc3
  have hrl3 := hr2.non hc3
  clear hb2 hC2 hr2 hc3 hown3 y0 y1 y2 y3 y4 y5
  have y0 := hb3.cell 0
  have y1 := hb3.cell 1
  have y2 := hb3.cell 2
  have y3 := hb3.cell 3
  have y4 := hb3.cell 4
  have y5 := hb3.cell 5
  simp only [frC, List.getElem?_toArray, List.getElem?_cons_zero, List.getElem?_cons_succ] at y0 y1 y2 y3 y4 y5
  go_wp2_with fail
  refine (refPack_any w3 f A n c hrl3 hc hcm).mono ?_
  rintro e w4 ⟨v4, rfl, hown4, hc4⟩
  obtain ⟨A4, n4, c4, rfl, hn4, _, _, hr4⟩ := hown4.open_
  have hb4 := hb3.non hc4
  have hC4 := hC3.non hc4
  have hrl4 := hrl3.non hc4
  have hr34 := hr3.non hc4
  have q1 := run_string_rds Try.underlying22 Try.underlying5 Try.underlying9 hr34 c3
  have q2 := run_string_rds Try.underlying22 Try.underlying5 Try.underlying9 hr4 c4
  clear hb3 hC3 hrl3 hr3 hc4 hown4 y0 y1 y2 y3 y4 y5
  go_wp2_with fail
  refine (num_any _ _).mono ?_
  rintro e w9 ⟨rfl, rfl⟩
  by_cases he : f.err = 0
  · have hrb := read_bytes he
    have hpk := Fr.pack_ok he
    have hlen : f.bytes.length ≤ 7000 := by
      have h1 := f.tail_len
      have h2 := f.bytes_len
      have h3 : n = f.load.length := hrl4.lenMap
      omega
    rw [hpk] at hr34 hn3
    rw [he]
    have Hpk := Lib.hid hpk
    have Hn3 := hn3
    clear hpk he hr4 hn4
    go_wp2_with fail
    clear q1 q2
    refine (read_any w4 A3 n3 c3 f.bytes hr34 hnc3 (by have := hn3.out; omega)).mono ?_
    rintro e w5 ⟨A5, n5, c5, rfl, hown5, hc5⟩
    rw [hrb.1, hrb.2]
    rw [hrb.2] at hown5
    have hb5 := hb4.non hc5
    have hC5 := hC4.non hc5
    have hrl5 := hrl4.non hc5
    clear hb4 hC4 hrl4 hc5 hrb hr34
    obtain ⟨w6, hw6⟩ : ∃ w9, w5.alloc (.cells (frC f A5 n5 c5) 24) = w9 := ⟨_, rfl⟩
    have hc6 : Chg Non w5 w6 := hw6 ▸ (Chg.refl _ _).alloc _
    have hb6 : Blk w6 w5.heap.size 24 (frC f A5 n5 c5) := hw6 ▸ Blk.new _ _ _
    have hC6 := hC5.non hc6
    have hrl6 := hrl5.non hc6
    have hr62 := hown5.rdsN.non hc6
    have hb62 := hb5.non hc6
    have y0 := hb6.cell 0
    have y1 := hb6.cell 1
    have y2 := hb6.cell 2
    have y3 := hb6.cell 3
    have y4 := hb6.cell 4
    have y5 := hb6.cell 5
    simp only [frC, List.getElem?_toArray, List.getElem?_cons_zero, List.getElem?_cons_succ] at y0 y1 y2 y3 y4 y5
    have z0 := hb62.cell 0
    have z1 := hb62.cell 1
    have z2 := hb62.cell 2
    have z3 := hb62.cell 3
    have z4 := hb62.cell 4
    have z5 := hb62.cell 5
    simp only [frC, List.getElem?_toArray, List.getElem?_cons_zero, List.getElem?_cons_succ] at z0 z1 z2 z3 z4 z5
    unfold frC at hw6
    go_wp2_with fail
    clear hw6 hb6 hb62 hb5 hc6 hown5 hrl5 hC5
    refine (num_any _ _).mono ?_
    rintro e w9 ⟨rfl, rfl⟩
    go_wp2_with fail
    refine (sameFrame_self w6 f A A5 n c n5 c5 hrl6 hr62).mono ?_
    rintro e w7 ⟨rfl, hc7⟩
    go_wp2_with fail
    go_ret
    exact ⟨rfl, hC6.non hc7⟩
  · have hne : (f.err != 0) = true := by rw [bne_iff_ne]; exact he
    clear he
    go_wp2_with fail
    go_ret
    exact ⟨rfl, hC4⟩

theorem framePacks_walk (w : World) (S : Array Value) (e0 : Rd Try.prog w 24 (Value.agg S).cells.toList) :
    Calls Try.prog 3 #[.agg S] w fun e w2 => e = .returned (.bool true) ∧ Chg Non w w2 := by
  obtain ⟨f, A, n, c, rfl, h1, h2, h3, h4⟩ := e0.frame
  by_cases hn : n ≤ 6000
  · exact framePacks_core w f A n c h4 h2 h3 hn
  · clear h4 e0
    unfold maxLen at h3
    obtain ⟨w1, hw1⟩ : ∃ w9, w.alloc (.cells (frC f A n c) 24) = w9 := ⟨_, rfl⟩
    have hc1 : Chg Non w w1 := hw1 ▸ (Chg.refl _ _).alloc _
    have hb1 : Blk w1 w.heap.size 24 (frC f A n c) := hw1 ▸ Blk.new _ _ _
    unfold frC at hw1
    go_enter Try.func3, Try.ntmps3
    go_wp2_with fail
    refine (frame_alive w1).mono ?_
    rintro e w2 ⟨rfl, hc2⟩
    have hb2 := hb1.non hc2
    have y0 := hb2.cell 0
    have y1 := hb2.cell 1
    have y2 := hb2.cell 2
    have y3 := hb2.cell 3
    have y4 := hb2.cell 4
    have y5 := hb2.cell 5
    simp only [frC, List.getElem?_toArray, List.getElem?_cons_zero, List.getElem?_cons_succ] at y0 y1 y2 y3 y4 y5
    go_wp2_with fail
    go_ret
    exact ⟨rfl, hc1.non hc2⟩
end Go.Proofs.Ytdllocgonjbmlaa
