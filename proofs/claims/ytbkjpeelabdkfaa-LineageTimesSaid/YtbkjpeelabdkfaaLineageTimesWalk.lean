/-
  gleanerlaw24.LineageTimes: the walk.
-/
import Derived.Test.YtbkjpeelabdkfaaLinLaw
namespace Go.Proofs.Ytbkjpeelabdkfaa
open Go.RowKit
set_option linter.unusedVariables false
set_option linter.unusedSimpArgs false

theorem one_times {r0 : Rc} (h : 0 ≤ r0.times ∧ r0.times ≤ 1000000) : ∀ a r, setR s0 ⟨#[]⟩ r0 a = some r → 0 ≤ r.times ∧ r.times ≤ 1000000 := by
  intro a r hr
  by_cases ha : a = ⟨#[]⟩
  · subst ha
    rw [setR_self] at hr
    obtain rfl := Option.some.inj hr
    exact h
  · rw [setR_other _ _ ha] at hr; cases hr
theorem times_one (r0 : Rc) : timesR (setR s0 ⟨#[]⟩ r0) ⟨#[]⟩ = r0.times := by unfold timesR; rw [setR_self]

set_option maxRecDepth 100000 in
set_option maxHeartbeats 2000000 in
theorem lineageTimes_much (w : World) (A : Option Addr) (n c : Nat) (ended : Int) (h : 100 < n) :
    Calls Try.prog 3 #[.slice A n c, .int .i64 ended] w fun e w2 => e = .returned (.bool true) ∧ Chg Non w w2 := by
  go_enter Try.func3, Try.ntmps3
  go_wp2_with fail
  refine (lin_alive w).mono ?_
  rintro e w2 ⟨rfl, hc2⟩
  go_wp2_with fail
  go_ret
  exact ⟨rfl, hc2⟩

set_option maxRecDepth 100000 in
set_option maxHeartbeats 8000000 in
theorem lineageTimes_core (w : World) (A : Option Addr) (n c : Nat) (l : List Int) (ended : Int) (hr : Rds w 1 A n (iv l)) (hn : n ≤ 100) :
    Calls Try.prog 3 #[.slice A n c, .int .i64 ended] w fun e w2 => e = .returned (.bool true) ∧ Chg Non w w2 := by
  have Hr := Lib.hid hr
  clear hr
  go_enter Try.func3, Try.ntmps3
  go_wp2_with fail
  refine (lin_alive w).mono ?_
  rintro e wa ⟨rfl, hca⟩
  go_wp2_with fail
  refine (linNew_any wa).mono ?_
  rintro e w1 ⟨g, F, rfl, hL, hF, hC⟩
  unfold ptr
  replace hF : ∀ b, F b → w.heap.size ≤ b := fun b hb => Nat.le_trans hca.size (hF b hb)
  replace hC := hca.non hC
  obtain ⟨w2, hw2⟩ : ∃ w2, w1.alloc (.cells #[.string ⟨#[]⟩] 27) = w2 := ⟨_, rfl⟩
  have hc2 : Chg Non w1 w2 := hw2 ▸ (Chg.refl _ _).alloc _
  have hr2 : Rds w2 1 (some ⟨w1.heap.size, 0, none⟩) 1 (sv [⟨#[]⟩]) := hw2 ▸ Rds.one w1 _ _
  have hSp := linSpawned_any w2 F g 0 s0 (hL.non hc2) 3 1 (some ⟨w1.heap.size, 0, none⟩) 1 1 [⟨#[]⟩] hr2 (fun ad e _ h => by obtain rfl := Option.some.inj e; have := hL.lt h; simp at this) (by omega) (by omega) (by intro a ha; simp at ha; subst ha; decide)
  replace hC := hC.non hc2
  clear hr2 hL hca
  go_wp2_with fail
  refine hSp.mono ?_
  rintro e w3 ⟨rfl, F2, n2, hL, hn2, hF2, hc3⟩
  clear hSp
  rw [spawn_one s0 vid_root rfl] at hL
  have hz := hC.size
  replace hC : Chg Non w w3 := hC.trans2 hc3 (fun b e => .inr (hF b e))
  replace hF : ∀ b, F2 b → w.heap.size ≤ b := fun b hb => (hF2 b hb).elim (hF b) (fun h => by omega)
  have hn2 : n2 ≤ 1000 := by simp at hn2; omega
  clear hc2 hw2 hF2 hc3 hz
  go_wp2_with fail
  go_loopw [7, 8, 9] (fun t x i wr => ∃ (k n2 : Nat) (T E nd : Int) (F : Nat → Prop), k ≤ n ∧ i = .int .i64 k ∧ t = .int .i64 T ∧ x = .int .i64 E ∧ Ln wr F g n2 (setR s0 ⟨#[]⟩ ⟨nd, E, T, decide (0 ≤ ended ∧ ended < (k : Int))⟩) ∧ n2 ≤ 1000 ∧ 1 ≤ T ∧ T ≤ (k : Int) + 1 ∧ T ≤ E ∧ (∀ b, F b → w.heap.size ≤ b) ∧ Chg Non w wr) (fun _ _ i _ => n - (intOf i).toNat)
  case atStart => exact ⟨0, n2, 1, 1, 3, F2, Nat.zero_le _, rfl, rfl, rfl, by rw [decide_eq_false (by omega)]; exact hL, hn2, by omega, by omega, by omega, hF, hC⟩
  case round =>
    clear hL hF hC
    obtain ⟨k, n2, T, E, nd, F, hk, rfl, rfl, rfl, hL, hn2, hT1, hTk, hTE, hF, hC⟩ := hrel
    by_cases hlt : k < n
    · obtain ⟨ad, x, rfl, hx, hcx⟩ := Hr.out.getI hlt
      have hcase : ((k : Int) = ended) ∨ ((k : Int) ≠ ended ∧ 0 ≤ ended ∧ ended < (k : Int)) ∨ ((k : Int) ≠ ended ∧ (ended < 0 ∨ (k : Int) < ended) ∧ E < x) ∨ ((k : Int) ≠ ended ∧ (ended < 0 ∨ (k : Int) < ended) ∧ x ≤ E) := by omega
      have a0 := hC.cell hcx id
      have al := World.block_lt_of_cell? wr _ a0
      clear hx
      rcases hcase with hke | ⟨hke, h0, h1⟩ | ⟨hke, h0, h1⟩ | ⟨hke, h0, h1⟩
      · subst hke
        rw [decide_eq_false (by omega)] at hL
        have hEn := linEnded_any wr F g n2 _ hL ⟨#[]⟩ (by decide)
        rw [ended_yes (setR_self _ _ _) rfl, setR_set] at hEn
        clear hL
        go_wp2_with fail
        refine hEn.mono ?_
        clear hEn
        rintro e w5 ⟨rfl, F5, n5, hL, hnN, hFN, hcN⟩
        have hz := hC.size
        replace hC : Chg Non w w5 := hC.trans2 hcN (fun b e => .inr (hF b e))
        replace hF : ∀ b, F5 b → w.heap.size ≤ b := fun b hb => (hFN b hb).elim (hF b) (fun h => by omega)
        replace hn2 : n5 ≤ 1000 := Nat.le_trans hnN hn2
        clear a0 al hz hcN hFN hnN
        have a0 := hC.cell hcx id
        have al := World.block_lt_of_cell? w5 _ a0
        have hAg := linAgain_any w5 F5 g n5 _ hL (one_times (r0 := ⟨nd, E, T, true⟩) ⟨(show 0 ≤ T by omega), (show T ≤ 1000000 by omega)⟩) ⟨#[]⟩ (by decide) k x
        rw [again_ended (setR_self _ _ _) rfl] at hAg
        clear hL
        go_wp2_with fail
        refine hAg.mono ?_
        clear hAg
        rintro e w8 ⟨rfl, F8, n8, hL, hnN, hFN, hcN⟩
        have hz := hC.size
        replace hC : Chg Non w w8 := hC.trans2 hcN (fun b e => .inr (hF b e))
        replace hF : ∀ b, F8 b → w.heap.size ≤ b := fun b hb => (hFN b hb).elim (hF b) (fun h => by omega)
        replace hn2 : n8 ≤ 1000 := Nat.le_trans hnN hn2
        clear a0 al hz hcN hFN hnN
        have a0 := hC.cell hcx id
        have al := World.block_lt_of_cell? w8 _ a0
        have hTi := linTimes_any w8 F8 g n8 _ hL ⟨#[]⟩ (by decide)
        rw [times_one] at hTi
        have hTi : Calls Try.prog 11 #[.pointer (some ⟨g, 0, none⟩), .string ⟨#[]⟩] w8 fun e w2 => e = .returned (.int .i64 (T)) ∧ w8 = w2 := hTi
        rcases (show (E < x) ∨ (x ≤ E) by omega) with hs2 | hs2
        · as_aux_lemma =>
            rcases (show (1 < T) ∨ (T ≤ 1) by omega) with hs1 | hs1
            · as_aux_lemma =>
                go_wp2_with fail
                refine hTi.mono ?_
                rintro e w9 ⟨rfl, rfl⟩
                clear hTi
                go_wp2_with fail
                go_roundw
                case rel => exact ⟨k + 1, n8, T, E, nd, F8, by omega, by go_num, rfl, rfl, by rw [show decide (0 ≤ (k : Int) ∧ (k : Int) < ((k + 1 : Nat) : Int)) = true from decide_eq_true (by omega)]; exact hL, hn2, by omega, by omega, by omega, hF, hC⟩
                case measure => simp [intOf]; omega
            · as_aux_lemma =>
                go_wp2_with fail
                refine hTi.mono ?_
                rintro e w9 ⟨rfl, rfl⟩
                clear hTi
                go_wp2_with fail
                go_roundw
                case rel => exact ⟨k + 1, n8, T, E, nd, F8, by omega, by go_num, rfl, rfl, by rw [show decide (0 ≤ (k : Int) ∧ (k : Int) < ((k + 1 : Nat) : Int)) = true from decide_eq_true (by omega)]; exact hL, hn2, by omega, by omega, by omega, hF, hC⟩
                case measure => simp [intOf]; omega
        · as_aux_lemma =>
            rcases (show (1 < T) ∨ (T ≤ 1) by omega) with hs1 | hs1
            · as_aux_lemma =>
                go_wp2_with fail
                refine hTi.mono ?_
                rintro e w9 ⟨rfl, rfl⟩
                clear hTi
                go_wp2_with fail
                go_roundw
                case rel => exact ⟨k + 1, n8, T, E, nd, F8, by omega, by go_num, rfl, rfl, by rw [show decide (0 ≤ (k : Int) ∧ (k : Int) < ((k + 1 : Nat) : Int)) = true from decide_eq_true (by omega)]; exact hL, hn2, by omega, by omega, by omega, hF, hC⟩
                case measure => simp [intOf]; omega
            · as_aux_lemma =>
                go_wp2_with fail
                refine hTi.mono ?_
                rintro e w9 ⟨rfl, rfl⟩
                clear hTi
                go_wp2_with fail
                go_roundw
                case rel => exact ⟨k + 1, n8, T, E, nd, F8, by omega, by go_num, rfl, rfl, by rw [show decide (0 ≤ (k : Int) ∧ (k : Int) < ((k + 1 : Nat) : Int)) = true from decide_eq_true (by omega)]; exact hL, hn2, by omega, by omega, by omega, hF, hC⟩
                case measure => simp [intOf]; omega
      · rw [decide_eq_true (by omega)] at hL
        have hD : ((k : Int) == ended) = false := beq_eq_false_iff_ne.2 hke
        have hAg := linAgain_any wr F g n2 _ hL (one_times (r0 := ⟨nd, E, T, true⟩) ⟨(show 0 ≤ T by omega), (show T ≤ 1000000 by omega)⟩) ⟨#[]⟩ (by decide) k x
        rw [again_ended (setR_self _ _ _) rfl] at hAg
        clear hL
        go_wp2_with fail
        refine hAg.mono ?_
        clear hAg
        rintro e w8 ⟨rfl, F8, n8, hL, hnN, hFN, hcN⟩
        have hz := hC.size
        replace hC : Chg Non w w8 := hC.trans2 hcN (fun b e => .inr (hF b e))
        replace hF : ∀ b, F8 b → w.heap.size ≤ b := fun b hb => (hFN b hb).elim (hF b) (fun h => by omega)
        replace hn2 : n8 ≤ 1000 := Nat.le_trans hnN hn2
        clear a0 al hz hcN hFN hnN
        have a0 := hC.cell hcx id
        have al := World.block_lt_of_cell? w8 _ a0
        have hTi := linTimes_any w8 F8 g n8 _ hL ⟨#[]⟩ (by decide)
        rw [times_one] at hTi
        have hTi : Calls Try.prog 11 #[.pointer (some ⟨g, 0, none⟩), .string ⟨#[]⟩] w8 fun e w2 => e = .returned (.int .i64 (T)) ∧ w8 = w2 := hTi
        rcases (show (E < x) ∨ (x ≤ E) by omega) with hs2 | hs2
        · as_aux_lemma =>
            rcases (show (1 < T) ∨ (T ≤ 1) by omega) with hs1 | hs1
            · as_aux_lemma =>
                go_wp2_with fail
                refine hTi.mono ?_
                rintro e w9 ⟨rfl, rfl⟩
                clear hTi
                go_wp2_with fail
                go_roundw
                case rel => exact ⟨k + 1, n8, T, E, nd, F8, by omega, by go_num, rfl, rfl, by rw [show decide (0 ≤ ended ∧ ended < ((k + 1 : Nat) : Int)) = true from decide_eq_true (by omega)]; exact hL, hn2, by omega, by omega, by omega, hF, hC⟩
                case measure => simp [intOf]; omega
            · as_aux_lemma =>
                go_wp2_with fail
                refine hTi.mono ?_
                rintro e w9 ⟨rfl, rfl⟩
                clear hTi
                go_wp2_with fail
                go_roundw
                case rel => exact ⟨k + 1, n8, T, E, nd, F8, by omega, by go_num, rfl, rfl, by rw [show decide (0 ≤ ended ∧ ended < ((k + 1 : Nat) : Int)) = true from decide_eq_true (by omega)]; exact hL, hn2, by omega, by omega, by omega, hF, hC⟩
                case measure => simp [intOf]; omega
        · as_aux_lemma =>
            rcases (show (1 < T) ∨ (T ≤ 1) by omega) with hs1 | hs1
            · as_aux_lemma =>
                go_wp2_with fail
                refine hTi.mono ?_
                rintro e w9 ⟨rfl, rfl⟩
                clear hTi
                go_wp2_with fail
                go_roundw
                case rel => exact ⟨k + 1, n8, T, E, nd, F8, by omega, by go_num, rfl, rfl, by rw [show decide (0 ≤ ended ∧ ended < ((k + 1 : Nat) : Int)) = true from decide_eq_true (by omega)]; exact hL, hn2, by omega, by omega, by omega, hF, hC⟩
                case measure => simp [intOf]; omega
            · as_aux_lemma =>
                go_wp2_with fail
                refine hTi.mono ?_
                rintro e w9 ⟨rfl, rfl⟩
                clear hTi
                go_wp2_with fail
                go_roundw
                case rel => exact ⟨k + 1, n8, T, E, nd, F8, by omega, by go_num, rfl, rfl, by rw [show decide (0 ≤ ended ∧ ended < ((k + 1 : Nat) : Int)) = true from decide_eq_true (by omega)]; exact hL, hn2, by omega, by omega, by omega, hF, hC⟩
                case measure => simp [intOf]; omega
      · rw [decide_eq_false (by omega)] at hL
        have hD : ((k : Int) == ended) = false := beq_eq_false_iff_ne.2 hke
        have hwr : IntKind.i64.wrap (T + 1) = T + 1 := by rw [IntKind.wrap_i64]; omega
        have hAg := linAgain_any wr F g n2 _ hL (one_times (r0 := ⟨nd, E, T, false⟩) ⟨(show 0 ≤ T by omega), (show T ≤ 1000000 by omega)⟩) ⟨#[]⟩ (by decide) k x
        rw [again_yes (setR_self _ _ _) rfl (show E < x from h1), setR_set] at hAg
        clear hL
        go_wp2_with fail
        refine hAg.mono ?_
        clear hAg
        rintro e w8 ⟨rfl, F8, n8, hL, hnN, hFN, hcN⟩
        have hz := hC.size
        replace hC : Chg Non w w8 := hC.trans2 hcN (fun b e => .inr (hF b e))
        replace hF : ∀ b, F8 b → w.heap.size ≤ b := fun b hb => (hFN b hb).elim (hF b) (fun h => by omega)
        replace hn2 : n8 ≤ 1000 := Nat.le_trans hnN hn2
        clear a0 al hz hcN hFN hnN
        have a0 := hC.cell hcx id
        have al := World.block_lt_of_cell? w8 _ a0
        have hTi := linTimes_any w8 F8 g n8 _ hL ⟨#[]⟩ (by decide)
        rw [times_one] at hTi
        have hTi : Calls Try.prog 11 #[.pointer (some ⟨g, 0, none⟩), .string ⟨#[]⟩] w8 fun e w2 => e = .returned (.int .i64 (T + 1)) ∧ w8 = w2 := hTi
        rcases (show (ended < 0) ∨ (0 ≤ ended ∧ (k : Int) < ended) by omega) with hs1 | ⟨hs1, hs1b⟩
        · as_aux_lemma =>
            go_wp2_with fail
            refine hTi.mono ?_
            rintro e w9 ⟨rfl, rfl⟩
            clear hTi
            go_wp2_with fail
            go_roundw
            case rel => exact ⟨k + 1, n8, T + 1, x, k, F8, by omega, by go_num, rfl, rfl, by rw [show decide (0 ≤ ended ∧ ended < ((k + 1 : Nat) : Int)) = false from decide_eq_false (by omega)]; exact hL, hn2, by omega, by omega, by omega, hF, hC⟩
            case measure => simp [intOf]; omega
        · as_aux_lemma =>
            go_wp2_with fail
            refine hTi.mono ?_
            rintro e w9 ⟨rfl, rfl⟩
            clear hTi
            go_wp2_with fail
            go_roundw
            case rel => exact ⟨k + 1, n8, T + 1, x, k, F8, by omega, by go_num, rfl, rfl, by rw [show decide (0 ≤ ended ∧ ended < ((k + 1 : Nat) : Int)) = false from decide_eq_false (by omega)]; exact hL, hn2, by omega, by omega, by omega, hF, hC⟩
            case measure => simp [intOf]; omega
      · rw [decide_eq_false (by omega)] at hL
        have hD : ((k : Int) == ended) = false := beq_eq_false_iff_ne.2 hke
        have hAg := linAgain_any wr F g n2 _ hL (one_times (r0 := ⟨nd, E, T, false⟩) ⟨(show 0 ≤ T by omega), (show T ≤ 1000000 by omega)⟩) ⟨#[]⟩ (by decide) k x
        rw [again_old (setR_self _ _ _) (show x ≤ E from h1)] at hAg
        clear hL
        go_wp2_with fail
        refine hAg.mono ?_
        clear hAg
        rintro e w8 ⟨rfl, F8, n8, hL, hnN, hFN, hcN⟩
        have hz := hC.size
        replace hC : Chg Non w w8 := hC.trans2 hcN (fun b e => .inr (hF b e))
        replace hF : ∀ b, F8 b → w.heap.size ≤ b := fun b hb => (hFN b hb).elim (hF b) (fun h => by omega)
        replace hn2 : n8 ≤ 1000 := Nat.le_trans hnN hn2
        clear a0 al hz hcN hFN hnN
        have a0 := hC.cell hcx id
        have al := World.block_lt_of_cell? w8 _ a0
        have hTi := linTimes_any w8 F8 g n8 _ hL ⟨#[]⟩ (by decide)
        rw [times_one] at hTi
        have hTi : Calls Try.prog 11 #[.pointer (some ⟨g, 0, none⟩), .string ⟨#[]⟩] w8 fun e w2 => e = .returned (.int .i64 (T)) ∧ w8 = w2 := hTi
        rcases (show (1 < T) ∨ (T ≤ 1) by omega) with hs1 | hs1
        · as_aux_lemma =>
            go_wp2_with fail
            refine hTi.mono ?_
            rintro e w9 ⟨rfl, rfl⟩
            clear hTi
            go_wp2_with fail
            go_roundw
            case rel => exact ⟨k + 1, n8, T, E, nd, F8, by omega, by go_num, rfl, rfl, by rw [show decide (0 ≤ ended ∧ ended < ((k + 1 : Nat) : Int)) = false from decide_eq_false (by omega)]; exact hL, hn2, by omega, by omega, by omega, hF, hC⟩
            case measure => simp [intOf]; omega
        · as_aux_lemma =>
            go_wp2_with fail
            refine hTi.mono ?_
            rintro e w9 ⟨rfl, rfl⟩
            clear hTi
            go_wp2_with fail
            go_roundw
            case rel => exact ⟨k + 1, n8, T, E, nd, F8, by omega, by go_num, rfl, rfl, by rw [show decide (0 ≤ ended ∧ ended < ((k + 1 : Nat) : Int)) = false from decide_eq_false (by omega)]; exact hL, hn2, by omega, by omega, by omega, hF, hC⟩
            case measure => simp [intOf]; omega
    · go_wp2_with fail
      go_ret
      exact ⟨rfl, hC⟩
theorem lineageTimes_walk (w : World) (A : Option Addr) (n c : Nat) (e0 : Rd Try.prog w 22 (Value.slice A n c).cells.toList) (ended : Int) (h1 : i64 ended) :
    Calls Try.prog 3 #[.slice A n c, .int .i64 ended] w fun e w2 => e = .returned (.bool true) ∧ Chg Non w w2 := by
  obtain ⟨A', n', c', l, h5, h6, h7, h8, _⟩ := e0.ints Try.underlying22 (by kernel_rfl) Try.underlying3
  simp only [Value.cells, List.cons.injEq, and_true, Value.slice.injEq] at h5
  obtain ⟨rfl, rfl, rfl⟩ := h5
  by_cases h : n ≤ 100
  · exact lineageTimes_core w A n c l ended h8 h
  · exact lineageTimes_much w A n c ended (by omega)
end Go.Proofs.Ytbkjpeelabdkfaa
