/-
  beat: the example of the document; a watch of a law's own.
-/
import Derived.Test.YtfpkhpdbfkclgaaBeatLate
import Derived.Test.YtfpkhpdbfkclgaaSameInts
namespace Go.Proofs.Ytfpkhpdbfkclgaa
open Go.RowKit
set_option linter.unusedVariables false
set_option linter.unusedSimpArgs false

theorem Chg.newF {F : Nat → Prop} {w w1 w2 : World} (h : Chg Non w w1) (k : Chg F w1 w2) (hF : ∀ b, F b → w.heap.size ≤ b) : Chg Non w w2 := h.trans2 k fun b e => .inr (hF b e)
theorem OkW.heard {L : List Wt} (h : OkW L) (a life now : Int) : OkW (if heardB L a life now then hearW L a now else L) := by
  by_cases hb : heardB L a life now = true
  · rw [if_pos hb]
    unfold heardB at hb
    cases hn : nW L a with
    | none => rw [hn] at hb; cases hb
    | some p =>
      rw [hn] at hb
      simp only [Bool.and_eq_true] at hb
      exact h.hear hb.2.2
  · rw [if_neg hb]; exact h
theorem OkW.came {L : List Wt} (h : OkW L) (a life now : Int) (ha : i64 a) : OkW (if inB L a life now then inW L a life now else L) := by
  by_cases hb : inB L a life now = true
  · rw [if_pos hb]
    unfold inB at hb
    simp only [Bool.and_eq_true] at hb
    exact h.inn ha hb.1.2.1 hb.1.2.2
  · rw [if_neg hb]; exact h
/-- A row of numbers that is laid out is of its length. -/
theorem OwnR.lenN {w : World} {base n : Nat} {v : Value} {l : List Int} (h : OwnR rkN w base v n (iv l)) : n = l.length := by
  have := h.len
  rw [iv_len] at this
  simpa using this.symm

theorem i64_small {x : Int} (h1 : -9223372036854775808 ≤ x) (h2 : x ≤ 9223372036854775807) : i64 x := ⟨h1, h2⟩
theorem bl_1 : lateN (if heardB (newW [1, 2]) 1 1 3 then hearW (newW [1, 2]) 1 3 else newW [1, 2]) 5 7 = [2] := by decide +kernel
theorem bl_2 : lateN (if heardB (newW [1, 2]) 1 1 3 then hearW (newW [1, 2]) 1 3 else newW [1, 2]) 5 9 = [1, 2] := by decide +kernel
theorem bl_3 : heardB (newW [1, 2]) 1 1 3 = true := by decide +kernel

set_option maxRecDepth 100000 in
set_option maxHeartbeats 1000000 in
theorem balive_any (w : World) : Calls Try.prog 6 #[] w fun e w2 => e = .returned (.bool true) ∧ Chg Non w w2 := by
  have hb0 : Rds (w.alloc (.cells #[.int .i64 1, .int .i64 2] 3)) 1 (some ⟨w.heap.size, 0, none⟩) 2 (iv [1, 2]) := Rds.block (Blk.new _ _ _) rfl
  have hl : ∀ x ∈ ([1, 2] : List Int), i64 x := by intro x hx; simp at hx; rcases hx with rfl | rfl <;> exact ⟨by omega, by omega⟩
  have hnew := btNew_any _ 5 _ 2 2 [1, 2] hb0 (by omega) hl
  have Hok := Lib.hid ((ok_new hl).heard 1 1 3)
  have hC0 : Chg Non w (w.alloc (.cells #[.int .i64 1, .int .i64 2] 3)) := (Chg.refl _ _).alloc _
  have Hn := Lib.hid hnew
  clear hb0 hl hnew
  go_enter Try.func6, Try.ntmps6
  go_wp2_with fail
  refine Hn.out.mono ?_
  rintro e w1 ⟨g, rfl, hB, hc1⟩
  rw [if_neg (by omega)] at hB
  have hC1 := hC0.non hc1
  have HF : Hid (∀ b, ((w.alloc (.cells #[.int .i64 1, .int .i64 2] 3)).heap.size ≤ b ∧ b < w1.heap.size) → w.heap.size ≤ b) := fun b h => by have := h.1; simp at this; omega
  obtain ⟨F, hF⟩ : ∃ F : Nat → Prop, (fun b => (w.alloc (.cells #[.int .i64 1, .int .i64 2] 3)).heap.size ≤ b ∧ b < w1.heap.size) = F := ⟨_, rfl⟩
  have HF2 : Hid (∀ b, F b → w.heap.size ≤ b) := fun b h => HF.out b (by rw [← hF] at h; exact h)
  rw [hF] at hB
  clear hF HF hC0 hc1 Hn
  go_wp2_with fail
  refine (btHeard_any w1 F g 5 _ 2 1 1 3 hB (by omega) ⟨by omega, by omega⟩).mono ?_
  rintro e w2 ⟨rfl, hB2, hc2⟩
  have hC2 := hC1.newF hc2 HF2.out
  clear hB hc2 hC1
  go_wp2_with fail
  refine (btLate_any w2 F g 5 _ 2 7 hB2 Hok.out (by omega) (by decide +kernel) (by omega) (by omega)).mono ?_
  rintro e w3 ⟨vX, nX, rfl, hX, hc3⟩
  rw [bl_1] at hX
  have hB3 := hB2.non hc3
  have hC3 := hC2.non hc3
  clear hB2 hc3 hC2
  go_wp2_with fail
  refine (btLate_any w3 F g 5 _ 2 9 hB3 Hok.out (by omega) (by decide +kernel) (by omega) (by omega)).mono ?_
  rintro e w4 ⟨vY, nY, rfl, hY, hc4⟩
  rw [bl_2] at hY
  have hX4 := hX.non hc4
  have hC4 := hC3.non hc4
  clear hB3 hc4 hC3 hX
  obtain ⟨AX, cX, rfl, _, _, hrX, _⟩ := hX4.open_
  obtain ⟨AY, cY, rfl, _, _, hrY, _⟩ := hY.open_
  have hbx : Rds (w4.alloc (.cells #[.int .i64 2] 3)) 1 (some ⟨w4.heap.size, 0, none⟩) 1 (iv [2]) := Rds.block (Blk.new _ _ _) rfl
  have hs1 := sameInts_any (w4.alloc (.cells #[.int .i64 2] 3)) AX nX cX [2] _ 1 1 [2] (hrX.non ((Chg.refl _ _).alloc _)) hbx (by have := hX4.lenN; simp at this; omega)
  rw [show (([2] : List Int) == [2]) = true from rfl] at hs1
  have hrY5 : Hid (∀ wx, Chg Non w4 wx → Rds wx 1 AY nY (iv [1, 2])) := fun wx h => hrY.non h
  have hnY := Lib.hid hY.lenN
  have hC5 := hC4.alloc (.cells #[.int .i64 2] 3)
  clear hX4 hY hrX hrY hbx
  go_wp2_with fail
  refine hs1.mono ?_
  rintro e w5 ⟨rfl, hc5⟩
  have hbx : Rds (w5.alloc (.cells #[.int .i64 1, .int .i64 2] 3)) 1 (some ⟨w5.heap.size, 0, none⟩) 2 (iv [1, 2]) := Rds.block (Blk.new _ _ _) rfl
  have hs2 := sameInts_any (w5.alloc (.cells #[.int .i64 1, .int .i64 2] 3)) AY nY cY [1, 2] _ 2 2 [1, 2] (hrY5.out _ ((((Chg.refl _ _).alloc _).non hc5).alloc _)) hbx (by have := hnY.out; simp at this; omega)
  rw [show (([1, 2] : List Int) == [1, 2]) = true from rfl] at hs2
  have hC6 := (hC5.non hc5).alloc (.cells #[.int .i64 1, .int .i64 2] 3)
  clear hs1 hbx hc5 hC5 hC4
  go_wp2_with fail
  refine hs2.mono ?_
  rintro e w7 ⟨rfl, hc7⟩
  have hC7 := hC6.non hc7
  clear hc7 hC6 hs2
  go_wp2_with fail
  go_ret
  exact ⟨rfl, hC7⟩
end Go.Proofs.Ytfpkhpdbfkclgaa
