/-
  gleanerlaw10.FrameReads: the walk.
-/
import Derived.Test.YtdllocgonjbmlaaFrameAlive
namespace Go.Proofs.Ytdllocgonjbmlaa
open Go.RowKit
set_option linter.unusedVariables false
set_option linter.unusedSimpArgs false

set_option maxRecDepth 100000 in
set_option maxHeartbeats 1000000 in
theorem frameReads_core (w : World) (A : Option Addr) (n c : Nat) (L : List UInt8) (hr : Rds w 1 A n (bv L)) (hc : n ≤ c) (hcm : c ≤ maxLen) (hn : n ≤ 6000) :
    Calls Try.prog 4 #[.slice A n c] w fun e w2 => e = .returned (.bool true) ∧ Chg Non w w2 := by
  have Hnl := Lib.hid hr.lenMap
  go_enter Try.func4, Try.ntmps4
  go_wp2_with fail
  refine (frame_alive w).mono ?_
  rintro e w1 ⟨rfl, hc1⟩
  have hr1 := hr.non hc1
  go_wp2_with (at_builtin; refine app8b rfl _ (.tmp 18) rfl (Own8.nil _ w1.heap.size) rfl hr1 rfl ?_ ?_ ?_; (next => (have := Hnl.out; simp; omega)); (next => exact Nat.le_refl _); intro v2 w2 h2 h3 h4; simp only [List.nil_append] at h2; have hc2 := h3.mono (S2 := Non) (fun _ e => by cases e); obtain ⟨A2, n2, c2, rfl, hn2, hnc2, hcm2, hr2⟩ := h2.open_; clear h3 h4)
  have hrb := hr1.non hc2
  have hC2 := hc1.non hc2
  refine (read_any w2 A2 n2 c2 L hr2 hnc2 (by have := hn2.out; have := Hnl.out; omega)).mono ?_
  rintro e w3 ⟨A3, n3, c3, rfl, hown3, hc3⟩
  have hrb3 := hrb.non hc3
  have hC3 := hC2.non hc3
  have HR := Lib.hid (refRead_any (L := L))
  generalize hf : readFr L = f at hown3 ⊢
  generalize hx : readErr L = x
  clear h2 hr2 hrb hc1 hc2 hc3 hC2 hr hr1
  obtain ⟨w4, hw4⟩ : ∃ w9, w3.alloc (.cells (frC f A3 n3 c3) 24) = w9 := ⟨_, rfl⟩
  have hc4 : Chg Non w3 w4 := hw4 ▸ (Chg.refl _ _).alloc _
  have hb4 : Blk w4 w3.heap.size 24 (frC f A3 n3 c3) := hw4 ▸ Blk.new _ _ _
  have hrb4 := hrb3.non hc4
  have hC4 := hC3.non hc4
  have hr4 := hown3.rdsN.non hc4
  unfold frC at hw4
  go_wp2_with fail
  refine (HR.out w4 A n c hrb4 hc hcm (by omega)).mono ?_
  rintro e w5 ⟨A5, n5, c5, rfl, hown5, hc5⟩
  rw [hf, hx]
  rw [hf] at hown5
  have hC5 := hC4.non hc5
  have hr5 := hr4.non hc5
  have hb5 := hb4.non hc5
  clear HR hw4 hc4 hb4 hr4 hC4 hc5 hrb3 hrb4 hown3 hC3
  obtain ⟨w6, hw6⟩ : ∃ w9, w5.alloc (.cells (frC f A5 n5 c5) 24) = w9 := ⟨_, rfl⟩
  have hc6 : Chg Non w5 w6 := hw6 ▸ (Chg.refl _ _).alloc _
  have hb6 : Blk w6 w5.heap.size 24 (frC f A5 n5 c5) := hw6 ▸ Blk.new _ _ _
  have hC6 := hC5.non hc6
  have hr6 := hr5.non hc6
  have hr62 := hown5.rdsN.non hc6
  have hb62 := hb5.non hc6
  have y0 := hb6.cell 0
  have y1 := hb6.cell 1
  have y2 := hb6.cell 2
  have y3 := hb6.cell 3
  have y4 := hb6.cell 4
  have y5 := hb6.cell 5
  simp only [frC, List.getElem?_toArray, List.getElem?_cons_zero, List.getElem?_cons_succ] at y0 y1 y2 y3 y4 y5
  have z0 := hb62.cell 0
  have z1 := hb62.cell 1
  have z2 := hb62.cell 2
  have z3 := hb62.cell 3
  have z4 := hb62.cell 4
  have z5 := hb62.cell 5
  simp only [frC, List.getElem?_toArray, List.getElem?_cons_zero, List.getElem?_cons_succ] at z0 z1 z2 z3 z4 z5
  unfold frC at hw6
  go_wp2_with fail
  clear hw6 hb6 hb62 hb5 hc6 hown5 hr5 hC5
  refine (num_any _ _).mono ?_
  rintro e w9 ⟨rfl, rfl⟩
  go_wp2_with fail
  refine (sameFrame_self w6 f A3 A5 n3 c3 n5 c5 hr6 hr62).mono ?_
  rintro e w7 ⟨rfl, hc7⟩
  go_wp2_with fail
  go_ret
  exact ⟨rfl, hC6.non hc7⟩

theorem frameReads_walk (w : World) (A : Option Addr) (n c : Nat) (e0 : Rd Try.prog w 22 (Value.slice A n c).cells.toList) :
    Calls Try.prog 4 #[.slice A n c] w fun e w2 => e = .returned (.bool true) ∧ Chg Non w w2 := by
  obtain ⟨A', n', c', L, h1, h2, h3, h4⟩ := e0.bytes Try.underlying22 (by kernel_rfl) Try.underlying5
  simp only [Value.cells, List.cons.injEq, and_true, Value.slice.injEq] at h1
  obtain ⟨rfl, rfl, rfl⟩ := h1
  by_cases hn : n ≤ 6000
  · exact frameReads_core w A n c L h4 h2 h3 hn
  · clear h4 e0
    unfold maxLen at h3
    go_enter Try.func4, Try.ntmps4
    go_wp2_with fail
    refine (frame_alive w).mono ?_
    rintro e w1 ⟨rfl, hc1⟩
    go_wp2_with fail
    go_ret
    exact ⟨rfl, hc1⟩
end Go.Proofs.Ytdllocgonjbmlaa
