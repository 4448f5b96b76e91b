/-
  gleanerref10.MayNote.
-/
import Derived.Test.YtclpmadecibofaaNoteRefMay
namespace Go.Proofs.Ytclpmadecibofaa
open Go.RowKit
set_option linter.unusedVariables false
set_option linter.unusedSimpArgs false

theorem clear_kinds (n : Nt) : n.clear.kind = 0 ∨ isK n.clear.kind = true := by
  cases h : isK n.kind with
  | false => left; have : n.clear = Nt.zero := by { unfold Nt.clear; rw [if_neg (by simp [h])] }; rw [this]; rfl
  | true => right; rw [clear_kind n h]; exact h

set_option maxRecDepth 100000 in
set_option maxHeartbeats 4000000 in
theorem refMay_any (w : World) (n : Nt) (A : Option Addr) (k c : Nat) (B : Option Addr) (m d : Nat) (h : NtAt w n A k c B m d) :
    Calls Try.prog 27 #[.agg (NtC n A k c B m d)] w fun e w2 => e = .returned (.bool n.clear.may) ∧ Chg Non w w2 := by
  obtain ⟨w1, hw1⟩ : ∃ w1, w.alloc (.cells (NtC n A k c B m d) 31) = w1 := ⟨_, rfl⟩
  have hC1 : Chg Non w w1 := hw1 ▸ (Chg.refl _ _).alloc _
  have hb1 : Blk w1 w.heap.size 31 (NtC n A k c B m d) := hw1 ▸ Blk.new _ _ _
  have hs1 := hC1.size
  have hCk := clear_kinds n
  obtain ⟨C, hCe⟩ : ∃ C, n.clear = C := ⟨_, rfl⟩
  have x0 := hb1.cell 0
  have x1 := hb1.cell 1
  have x2 := hb1.cell 2
  have x3 := hb1.cell 3
  have x4 := hb1.cell 4
  have x5 := hb1.cell 5
  have x6 := hb1.cell 6
  have x7 := hb1.cell 7
  have x8 := hb1.cell 8
  have x9 := hb1.cell 9
  have x10 := hb1.cell 10
  simp only [NtC, List.getElem?_toArray, List.getElem?_cons_zero, List.getElem?_cons_succ] at x0 x1 x2 x3 x4 x5 x6 x7 x8 x9 x10
  unfold NtC at hw1
  go_enter Try.func27, Try.ntmps27
  go_wp2_with fail
  refine (refClear_any _ n A k c B m d).mono ?_
  rintro e w3 ⟨A3, k3, c3, B3, m3, d3, rfl, hat, hc3⟩
  rw [hCe] at hCk ⊢
  simp only [hCe] at hat
  have HCe := Lib.hid hCe
  clear hCe
  have hb3 := hb1.non hc3
  have hC3 := hC1.non hc3
  have hatw := hat w h
  clear hw1 hb1 hC1 hc3 h hat x0 x1 x2 x3 x4 x5 x6 x7 x8 x9 x10
  have x0 := hb3.cell 0
  have x1 := hb3.cell 1
  have x2 := hb3.cell 2
  have x3 := hb3.cell 3
  have x4 := hb3.cell 4
  have x5 := hb3.cell 5
  have x6 := hb3.cell 6
  have x7 := hb3.cell 7
  have x8 := hb3.cell 8
  have x9 := hb3.cell 9
  have x10 := hb3.cell 10
  simp only [NtC, List.getElem?_toArray, List.getElem?_cons_zero, List.getElem?_cons_succ] at x0 x1 x2 x3 x4 x5 x6 x7 x8 x9 x10
  have f0 := hb3.frozen 0
  have f1 := hb3.frozen 1
  have f2 := hb3.frozen 2
  have f3 := hb3.frozen 3
  have f4 := hb3.frozen 4
  have f5 := hb3.frozen 5
  have f6 := hb3.frozen 6
  have f7 := hb3.frozen 7
  have f8 := hb3.frozen 8
  have f9 := hb3.frozen 9
  have f10 := hb3.frozen 10
  go_wp2_with fail
  clear x0 x1 x2 x3 x4 x5 x6 x7 x8 x9 x10 f0 f1 f2 f3 f4 f5 f6 f7 f8 f9 f10
  obtain ⟨w4, hw4⟩ : ∃ w4, (((((((((((w3.setCell ⟨w.heap.size, 0, none⟩ (.int .i64 C.kind)).setCell ⟨w.heap.size, 1, none⟩ (.int .i64 C.node)).setCell ⟨w.heap.size, 2, none⟩ (.int .i64 C.life)).setCell ⟨w.heap.size, 3, none⟩ (.int .i64 C.epoch)).setCell ⟨w.heap.size, 4, none⟩ (.string C.id)).setCell ⟨w.heap.size, 5, none⟩ (.int .i64 C.fn)).setCell ⟨w.heap.size, 6, none⟩ (.slice A3 k3 c3)).setCell ⟨w.heap.size, 7, none⟩ (.int .i64 C.err)).setCell ⟨w.heap.size, 8, none⟩ (.int .i64 C.val)).setCell ⟨w.heap.size, 9, none⟩ (.int .i64 C.vep)).setCell ⟨w.heap.size, 10, none⟩ (.slice B3 m3 d3)) = w4 := ⟨_, rfl⟩
  have hE : Chg (fun b => b = w.heap.size) w3 w4 := hw4 ▸ chg11 w3 w.heap.size (.int .i64 C.kind) (.int .i64 C.node) (.int .i64 C.life) (.int .i64 C.epoch) (.string C.id) (.int .i64 C.fn) (.slice A3 k3 c3) (.int .i64 C.err) (.int .i64 C.val) (.int .i64 C.vep) (.slice B3 m3 d3)
  have hb4 : Blk w4 w.heap.size 31 (NtC C A3 k3 c3 B3 m3 d3) := hw4 ▸ hb3.put11 (.int .i64 C.kind) (.int .i64 C.node) (.int .i64 C.life) (.int .i64 C.epoch) (.string C.id) (.int .i64 C.fn) (.slice A3 k3 c3) (.int .i64 C.err) (.int .i64 C.val) (.int .i64 C.vep) (.slice B3 m3 d3)
  have hC4 := hC3.trans2 hE (fun b e => .inr (by have e : b = w.heap.size := e; omega))
  have h4 := hatw.non hC4
  rw [hw4]
  clear hw4 hE hb3 hC3 hatw
  have hkl := h4.args.lenMap
  have hml := h4.mems.lenM
  have hk63 : k3 ≤ 9223372036854775807 := by have := h4.kc; have := h4.cm; unfold maxLen at this; omega
  have hm63 : m3 ≤ 9223372036854775807 := by have := h4.md; have := h4.dm; unfold maxLen at this; omega
  have Hkl := Lib.hid hkl
  have Hml := Lib.hid hml
  have hmems := h4.mems
  have hids := h4.ok.id
  clear hkl hml h4
  have x0 := hb4.cell 0
  have x1 := hb4.cell 1
  have x2 := hb4.cell 2
  have x3 := hb4.cell 3
  have x4 := hb4.cell 4
  have x5 := hb4.cell 5
  have x6 := hb4.cell 6
  have x7 := hb4.cell 7
  have x8 := hb4.cell 8
  have x9 := hb4.cell 9
  have x10 := hb4.cell 10
  simp only [NtC, List.getElem?_toArray, List.getElem?_cons_zero, List.getElem?_cons_succ] at x0 x1 x2 x3 x4 x5 x6 x7 x8 x9 x10
  go_wp2_with fail
  clear x0 x1 x2 x3 x4 x5 x6 x7 x8 x9 x10
  refine (refValid_any C.id _ (by unfold maxLen at hids; omega)).mono ?_
  rintro e w9 ⟨rfl, rfl⟩
  obtain ⟨vi, hvi⟩ : ∃ vi, vid C.id = vi := ⟨_, rfl⟩
  rw [hvi]
  rcases hCk with hk0 | hK
  · have hno : C.may = false := by unfold Nt.may; rw [hk0]; rfl
    have Hno := Lib.hid hno
    have x0 := hb4.cell 0
    have x1 := hb4.cell 1
    have x2 := hb4.cell 2
    have x3 := hb4.cell 3
    have x4 := hb4.cell 4
    have x5 := hb4.cell 5
    have x6 := hb4.cell 6
    have x7 := hb4.cell 7
    have x8 := hb4.cell 8
    have x9 := hb4.cell 9
    have x10 := hb4.cell 10
    simp only [NtC, List.getElem?_toArray, List.getElem?_cons_zero, List.getElem?_cons_succ] at x0 x1 x2 x3 x4 x5 x6 x7 x8 x9 x10
    rw [hk0] at x0
    clear hno hvi hk0
    go_wp2_with fail
    go_ret
    exact ⟨by rw [HCe.out, Hno.out]; rfl, hC4⟩
  have hkn : (C.kind != 0) = true := by rw [bne_iff_ne]; have := isK_iff.1 hK; omega
  have x0 := hb4.cell 0
  have x1 := hb4.cell 1
  have x2 := hb4.cell 2
  have x3 := hb4.cell 3
  have x4 := hb4.cell 4
  have x5 := hb4.cell 5
  have x6 := hb4.cell 6
  have x7 := hb4.cell 7
  have x8 := hb4.cell 8
  have x9 := hb4.cell 9
  have x10 := hb4.cell 10
  simp only [NtC, List.getElem?_toArray, List.getElem?_cons_zero, List.getElem?_cons_succ] at x0 x1 x2 x3 x4 x5 x6 x7 x8 x9 x10
  have HhK := Lib.hid hK
  have Hhvi := Lib.hid hvi
  clear hK hvi
  go_wp2_with fail
  clear x0 x1 x2 x3 x4 x5 x6 x7 x8 x9 x10
  have hK := HhK.out
  have hvi := Hhvi.out
  clear HhK Hhvi
  refine (refNode_any C.node _).mono ?_
  rintro e w9 ⟨rfl, rfl⟩
  cases h1 : upto 15 C.node with
  | false =>
    have x0 := hb4.cell 0
    have x1 := hb4.cell 1
    have x2 := hb4.cell 2
    have x3 := hb4.cell 3
    have x4 := hb4.cell 4
    have x5 := hb4.cell 5
    have x6 := hb4.cell 6
    have x7 := hb4.cell 7
    have x8 := hb4.cell 8
    have x9 := hb4.cell 9
    have x10 := hb4.cell 10
    simp only [NtC, List.getElem?_toArray, List.getElem?_cons_zero, List.getElem?_cons_succ] at x0 x1 x2 x3 x4 x5 x6 x7 x8 x9 x10
    have hno : C.may = false := by unfold Nt.may; simp [hK, hvi, h1]
    have Hno := Lib.hid hno
    clear hno hK hvi h1
    go_wp2_with fail
    go_ret
    exact ⟨by rw [HCe.out, Hno.out]; rfl, hC4⟩
  | true =>
    have x0 := hb4.cell 0
    have x1 := hb4.cell 1
    have x2 := hb4.cell 2
    have x3 := hb4.cell 3
    have x4 := hb4.cell 4
    have x5 := hb4.cell 5
    have x6 := hb4.cell 6
    have x7 := hb4.cell 7
    have x8 := hb4.cell 8
    have x9 := hb4.cell 9
    have x10 := hb4.cell 10
    simp only [NtC, List.getElem?_toArray, List.getElem?_cons_zero, List.getElem?_cons_succ] at x0 x1 x2 x3 x4 x5 x6 x7 x8 x9 x10
    have HhK := Lib.hid hK
    have Hhvi := Lib.hid hvi
    have Hh1 := Lib.hid h1
    clear hK hvi h1
    go_wp2_with fail
    clear x0 x1 x2 x3 x4 x5 x6 x7 x8 x9 x10
    have hK := HhK.out
    have hvi := Hhvi.out
    have h1 := Hh1.out
    clear HhK Hhvi Hh1
    refine (refNum_any C.life _).mono ?_
    rintro e w9 ⟨rfl, rfl⟩
    cases h2 : upto 2147483647 C.life with
    | false =>
      have x0 := hb4.cell 0
      have x1 := hb4.cell 1
      have x2 := hb4.cell 2
      have x3 := hb4.cell 3
      have x4 := hb4.cell 4
      have x5 := hb4.cell 5
      have x6 := hb4.cell 6
      have x7 := hb4.cell 7
      have x8 := hb4.cell 8
      have x9 := hb4.cell 9
      have x10 := hb4.cell 10
      simp only [NtC, List.getElem?_toArray, List.getElem?_cons_zero, List.getElem?_cons_succ] at x0 x1 x2 x3 x4 x5 x6 x7 x8 x9 x10
      have hno : C.may = false := by unfold Nt.may; simp [hK, hvi, h1, h2]
      have Hno := Lib.hid hno
      clear hno hK hvi h1 h2
      go_wp2_with fail
      go_ret
      exact ⟨by rw [HCe.out, Hno.out]; rfl, hC4⟩
    | true =>
      have x0 := hb4.cell 0
      have x1 := hb4.cell 1
      have x2 := hb4.cell 2
      have x3 := hb4.cell 3
      have x4 := hb4.cell 4
      have x5 := hb4.cell 5
      have x6 := hb4.cell 6
      have x7 := hb4.cell 7
      have x8 := hb4.cell 8
      have x9 := hb4.cell 9
      have x10 := hb4.cell 10
      simp only [NtC, List.getElem?_toArray, List.getElem?_cons_zero, List.getElem?_cons_succ] at x0 x1 x2 x3 x4 x5 x6 x7 x8 x9 x10
      have HhK := Lib.hid hK
      have Hhvi := Lib.hid hvi
      have Hh1 := Lib.hid h1
      have Hh2 := Lib.hid h2
      clear hK hvi h1 h2
      go_wp2_with fail
      clear x0 x1 x2 x3 x4 x5 x6 x7 x8 x9 x10
      have hK := HhK.out
      have hvi := Hhvi.out
      have h1 := Hh1.out
      have h2 := Hh2.out
      clear HhK Hhvi Hh1 Hh2
      refine (refNum_any C.epoch _).mono ?_
      rintro e w9 ⟨rfl, rfl⟩
      cases h3 : upto 2147483647 C.epoch with
      | false =>
        have x0 := hb4.cell 0
        have x1 := hb4.cell 1
        have x2 := hb4.cell 2
        have x3 := hb4.cell 3
        have x4 := hb4.cell 4
        have x5 := hb4.cell 5
        have x6 := hb4.cell 6
        have x7 := hb4.cell 7
        have x8 := hb4.cell 8
        have x9 := hb4.cell 9
        have x10 := hb4.cell 10
        simp only [NtC, List.getElem?_toArray, List.getElem?_cons_zero, List.getElem?_cons_succ] at x0 x1 x2 x3 x4 x5 x6 x7 x8 x9 x10
        have hno : C.may = false := by unfold Nt.may; simp [hK, hvi, h1, h2, h3]
        have Hno := Lib.hid hno
        clear hno hK hvi h1 h2 h3
        go_wp2_with fail
        go_ret
        exact ⟨by rw [HCe.out, Hno.out]; rfl, hC4⟩
      | true =>
        cases vi with
        | false =>
          have x0 := hb4.cell 0
          have x1 := hb4.cell 1
          have x2 := hb4.cell 2
          have x3 := hb4.cell 3
          have x4 := hb4.cell 4
          have x5 := hb4.cell 5
          have x6 := hb4.cell 6
          have x7 := hb4.cell 7
          have x8 := hb4.cell 8
          have x9 := hb4.cell 9
          have x10 := hb4.cell 10
          simp only [NtC, List.getElem?_toArray, List.getElem?_cons_zero, List.getElem?_cons_succ] at x0 x1 x2 x3 x4 x5 x6 x7 x8 x9 x10
          have hno : C.may = false := by unfold Nt.may; simp [hK, hvi, h1, h2, h3]
          have Hno := Lib.hid hno
          clear hno hK hvi h1 h2 h3
          go_wp2_with fail
          go_ret
          exact ⟨by rw [HCe.out, Hno.out]; rfl, hC4⟩
        | true =>
          by_cases h4 : 0 ≤ C.fn
          case neg =>
            have x0 := hb4.cell 0
            have x1 := hb4.cell 1
            have x2 := hb4.cell 2
            have x3 := hb4.cell 3
            have x4 := hb4.cell 4
            have x5 := hb4.cell 5
            have x6 := hb4.cell 6
            have x7 := hb4.cell 7
            have x8 := hb4.cell 8
            have x9 := hb4.cell 9
            have x10 := hb4.cell 10
            simp only [NtC, List.getElem?_toArray, List.getElem?_cons_zero, List.getElem?_cons_succ] at x0 x1 x2 x3 x4 x5 x6 x7 x8 x9 x10
            have hno : C.may = false := by unfold Nt.may; rw [show upto 31 C.fn = false from by unfold upto; rw [decide_eq_false h4]; rfl]; simp
            have Hno := Lib.hid hno
            clear hno hK hvi h1 h2 h3
            go_wp2_with fail
            go_ret
            exact ⟨by rw [HCe.out, Hno.out]; rfl, hC4⟩
          by_cases h5 : C.fn < 32
          case neg =>
            have x0 := hb4.cell 0
            have x1 := hb4.cell 1
            have x2 := hb4.cell 2
            have x3 := hb4.cell 3
            have x4 := hb4.cell 4
            have x5 := hb4.cell 5
            have x6 := hb4.cell 6
            have x7 := hb4.cell 7
            have x8 := hb4.cell 8
            have x9 := hb4.cell 9
            have x10 := hb4.cell 10
            simp only [NtC, List.getElem?_toArray, List.getElem?_cons_zero, List.getElem?_cons_succ] at x0 x1 x2 x3 x4 x5 x6 x7 x8 x9 x10
            have hno : C.may = false := by unfold Nt.may; rw [show upto 31 C.fn = false from by unfold upto; rw [decide_eq_false (show ¬ C.fn ≤ 31 by omega)]; simp]; simp
            have Hno := Lib.hid hno
            clear hno hK hvi h1 h2 h3
            go_wp2_with fail
            go_ret
            exact ⟨by rw [HCe.out, Hno.out]; rfl, hC4⟩
          have h45 : upto 31 C.fn = true := by rw [upto_iff]; omega
          by_cases h6 : k3 ≤ 8
          case neg =>
            have x0 := hb4.cell 0
            have x1 := hb4.cell 1
            have x2 := hb4.cell 2
            have x3 := hb4.cell 3
            have x4 := hb4.cell 4
            have x5 := hb4.cell 5
            have x6 := hb4.cell 6
            have x7 := hb4.cell 7
            have x8 := hb4.cell 8
            have x9 := hb4.cell 9
            have x10 := hb4.cell 10
            simp only [NtC, List.getElem?_toArray, List.getElem?_cons_zero, List.getElem?_cons_succ] at x0 x1 x2 x3 x4 x5 x6 x7 x8 x9 x10
            have hno : C.may = false := by unfold Nt.may; rw [show decide (C.args.length ≤ 8) = false from decide_eq_false (by have := Hkl.out; omega)]; simp
            have Hno := Lib.hid hno
            clear hno hK hvi h1 h2 h3 h45
            go_wp2_with fail
            go_ret
            exact ⟨by rw [HCe.out, Hno.out]; rfl, hC4⟩
          have h66 : decide (C.args.length ≤ 8) = true := decide_eq_true (by have := Hkl.out; omega)
          have x0 := hb4.cell 0
          have x1 := hb4.cell 1
          have x2 := hb4.cell 2
          have x3 := hb4.cell 3
          have x4 := hb4.cell 4
          have x5 := hb4.cell 5
          have x6 := hb4.cell 6
          have x7 := hb4.cell 7
          have x8 := hb4.cell 8
          have x9 := hb4.cell 9
          have x10 := hb4.cell 10
          simp only [NtC, List.getElem?_toArray, List.getElem?_cons_zero, List.getElem?_cons_succ] at x0 x1 x2 x3 x4 x5 x6 x7 x8 x9 x10
          have HhK := Lib.hid hK
          have Hhvi := Lib.hid hvi
          have Hh1 := Lib.hid h1
          have Hh2 := Lib.hid h2
          have Hh3 := Lib.hid h3
          have Hh45 := Lib.hid h45
          have Hh66 := Lib.hid h66
          clear hK hvi h1 h2 h3 h45 h66
          go_wp2_with fail
          clear x0 x1 x2 x3 x4 x5 x6 x7 x8 x9 x10
          have hK := HhK.out
          have hvi := Hhvi.out
          have h1 := Hh1.out
          have h2 := Hh2.out
          have h3 := Hh3.out
          have h45 := Hh45.out
          have h66 := Hh66.out
          clear HhK Hhvi Hh1 Hh2 Hh3 Hh45 Hh66
          refine (refResult_any _ C.err C.val).mono ?_
          rintro e w5 ⟨rfl, hc5⟩
          have hC5 := hC4.non hc5
          have hb5 := hb4.non hc5
          clear hC4 hb4
          cases h7 : endB C.err C.val with
          | false =>
            have x0 := hb5.cell 0
            have x1 := hb5.cell 1
            have x2 := hb5.cell 2
            have x3 := hb5.cell 3
            have x4 := hb5.cell 4
            have x5 := hb5.cell 5
            have x6 := hb5.cell 6
            have x7 := hb5.cell 7
            have x8 := hb5.cell 8
            have x9 := hb5.cell 9
            have x10 := hb5.cell 10
            simp only [NtC, List.getElem?_toArray, List.getElem?_cons_zero, List.getElem?_cons_succ] at x0 x1 x2 x3 x4 x5 x6 x7 x8 x9 x10
            have hno : C.may = false := by unfold Nt.may; simp [hK, hvi, h1, h2, h3, h45, h66, h7]
            have Hno := Lib.hid hno
            clear hno hK hvi h1 h2 h3 h45 h66 h7
            go_wp2_with fail
            go_ret
            exact ⟨by rw [HCe.out, Hno.out]; rfl, hC5⟩
          | true =>
            have x0 := hb5.cell 0
            have x1 := hb5.cell 1
            have x2 := hb5.cell 2
            have x3 := hb5.cell 3
            have x4 := hb5.cell 4
            have x5 := hb5.cell 5
            have x6 := hb5.cell 6
            have x7 := hb5.cell 7
            have x8 := hb5.cell 8
            have x9 := hb5.cell 9
            have x10 := hb5.cell 10
            simp only [NtC, List.getElem?_toArray, List.getElem?_cons_zero, List.getElem?_cons_succ] at x0 x1 x2 x3 x4 x5 x6 x7 x8 x9 x10
            have HhK := Lib.hid hK
            have Hhvi := Lib.hid hvi
            have Hh1 := Lib.hid h1
            have Hh2 := Lib.hid h2
            have Hh3 := Lib.hid h3
            have Hh45 := Lib.hid h45
            have Hh66 := Lib.hid h66
            have Hh7 := Lib.hid h7
            clear hK hvi h1 h2 h3 h45 h66 h7
            go_wp2_with fail
            clear x0 x1 x2 x3 x4 x5 x6 x7 x8 x9 x10
            have hK := HhK.out
            have hvi := Hhvi.out
            have h1 := Hh1.out
            have h2 := Hh2.out
            have h3 := Hh3.out
            have h45 := Hh45.out
            have h66 := Hh66.out
            have h7 := Hh7.out
            clear HhK Hhvi Hh1 Hh2 Hh3 Hh45 Hh66 Hh7
            refine (refView_any _ C.vep B3 m3 d3 C.mems (hmems.non (hc5)) hm63).mono ?_
            rintro e w6 ⟨rfl, hc6⟩
            have hC6 := hC5.non hc6
            have hb6 := hb5.non hc6
            clear hC5 hb5
            cases h8 : (upto great C.vep && viewB C.mems) with
            | false =>
              have x0 := hb6.cell 0
              have x1 := hb6.cell 1
              have x2 := hb6.cell 2
              have x3 := hb6.cell 3
              have x4 := hb6.cell 4
              have x5 := hb6.cell 5
              have x6 := hb6.cell 6
              have x7 := hb6.cell 7
              have x8 := hb6.cell 8
              have x9 := hb6.cell 9
              have x10 := hb6.cell 10
              simp only [NtC, List.getElem?_toArray, List.getElem?_cons_zero, List.getElem?_cons_succ] at x0 x1 x2 x3 x4 x5 x6 x7 x8 x9 x10
              have hno : C.may = false := by unfold Nt.may; simp [hK, hvi, h1, h2, h3, h45, h66, h7, h8]
              have Hno := Lib.hid hno
              clear hno hK hvi h1 h2 h3 h45 h66 h7 h8
              go_wp2_with fail
              go_ret
              exact ⟨by rw [HCe.out, Hno.out]; rfl, hC6⟩
            | true =>
              simp only [Bool.and_eq_true] at h8
              have hyes : C.may = true := by unfold Nt.may; simp [hK, hvi, h1, h2, h3, h45, h66, h7, h8]
              have Hyes := Lib.hid hyes
              clear hyes hK hvi h1 h2 h3 h45 h66 h7 h8
              go_wp2_with fail
              go_ret
              exact ⟨by rw [HCe.out, Hyes.out]; rfl, hC6⟩
end Go.Proofs.Ytclpmadecibofaa
