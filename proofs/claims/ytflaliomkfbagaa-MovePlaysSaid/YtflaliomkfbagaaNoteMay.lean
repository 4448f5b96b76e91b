/-
  Notes as they lie; note.may.
-/
import Derived.Test.YtflaliomkfbagaaNoteMembers
import Derived.Test.YtflaliomkfbagaaIdentValid
import Derived.Laws.Cover3
namespace Go.Proofs.Ytflaliomkfbagaa
open Go.RowKit
set_option linter.unusedVariables false
set_option linter.unusedSimpArgs false

/-- A note's cells. -/
abbrev NtC (n : Nt) (A : Option Addr) (k c : Nat) (B : Option Addr) (m d : Nat) : Array Value :=
  #[.int .i64 n.kind, .int .i64 n.node, .int .i64 n.life, .int .i64 n.epoch, .string n.id, .int .i64 n.fn, .slice A k c, .int .i64 n.err, .int .i64 n.val, .int .i64 n.vep, .slice B m d]
/-- How a note's rows lie. -/
structure NtAt (w : World) (n : Nt) (A : Option Addr) (k c : Nat) (B : Option Addr) (m d : Nat) : Prop where
  ok : n.ok
  args : Rds w 1 A k (iv n.args)
  kc : k ≤ c
  cm : c ≤ maxLen
  mems : Rds w 2 B m (mv n.mems)
  md : m ≤ d
  dm : d ≤ maxLen
theorem NtAt.non {w w2 : World} {n : Nt} {A : Option Addr} {k c : Nat} {B : Option Addr} {m d : Nat} (h : NtAt w n A k c B m d) (hc : Chg Non w w2) : NtAt w2 n A k c B m d :=
  ⟨h.ok, h.args.non hc, h.kc, h.cm, h.mems.non hc, h.md, h.dm⟩
theorem eq_nil (P : Program) (t e : TypeId) (ht : P.underlying t = some (.slice e)) (w : World) (a : Option Addr) (n c : Nat) : (binOp .eql t (.slice a n c) (.slice none 0 0)).run P w = .ok (.bool a.isNone) w := Lib.run_eql_slice_nil w _ _ a n c 0 0 ht
theorem ne_nil (w : World) (a : Option Addr) (n c : Nat) : (binOp .neq 29 (.slice a n c) (.slice none 0 0)).run Try.prog w = .ok (.bool (!a.isNone)) w := by
  first | exact run_neq_slice_nil _ _ _ a n c Try.underlying29 | exact run_neq_slice_nil _ _ _ _ a n c Try.underlying29
theorem all_tri (a b c : Int) : [a, b, c].all (upto 2147483647) = (upto great a && upto great b && upto great c) := by simp [Bool.and_assoc]

set_option maxRecDepth 100000 in
set_option maxHeartbeats 2000000 in
theorem may_any (w : World) (n : Nt) (A : Option Addr) (k c : Nat) (B : Option Addr) (m d : Nat) (h : NtAt w n A k c B m d) :
    Calls Try.prog 56 #[.agg (NtC n A k c B m d)] w fun e w2 => e = .returned (.bool n.may) ∧ Chg Non w w2 := by
  have hkl := h.args.lenMap
  have hml := h.mems.lenM
  have hk63 : k ≤ 9223372036854775807 := by have := h.kc; have := h.cm; unfold maxLen at this; omega
  have hm63 : m ≤ 9223372036854775807 := by have := h.md; have := h.dm; unfold maxLen at this; omega
  have qn := ne_nil
  obtain ⟨w1, hw1⟩ : ∃ w1, w.alloc (.cells (NtC n A k c B m d) 59) = w1 := ⟨_, rfl⟩
  have hC1 : Chg Non w w1 := hw1 ▸ (Chg.refl _ _).alloc _
  have hb1 : Blk w1 w.heap.size 59 (NtC n A k c B m d) := hw1 ▸ Blk.new _ _ _
  have Hkl := Lib.hid hkl
  have Hml := Lib.hid hml
  have hmems := h.mems
  have hkind := h.ok.kind
  clear hkl hml
  have x0 := hb1.cell 0
  have x1 := hb1.cell 1
  have x2 := hb1.cell 2
  have x3 := hb1.cell 3
  have x4 := hb1.cell 4
  have x5 := hb1.cell 5
  have x6 := hb1.cell 6
  have x7 := hb1.cell 7
  have x8 := hb1.cell 8
  have x9 := hb1.cell 9
  have x10 := hb1.cell 10
  simp only [NtC, List.getElem?_toArray, List.getElem?_cons_zero, List.getElem?_cons_succ] at x0 x1 x2 x3 x4 x5 x6 x7 x8 x9 x10
  unfold NtC at hw1
  go_enter Try.func56, Try.ntmps56
  go_wp2_with fail
  refine (parts_any _ n.kind hkind).mono ?_
  rintro e w2 ⟨A2, n2, c2, rfl, _, _, hnil, hc2⟩
  have hC2 := hC1.non hc2
  have hb2 := hb1.non hc2
  clear hw1 hb1 hC1 hc2 x0 x1 x2 x3 x4 x5 x6 x7 x8 x9 x10
  cases hK : isK n.kind with
  | false =>
    rw [hK] at hnil
    have hno : n.may = false := by unfold Nt.may; simp [hK]
    have Hno := Lib.hid hno
    clear hno hK
    go_wp2_with fail
    go_ret
    exact ⟨by rw [Hno.out]; rfl, hC2⟩
  | true =>
    rw [hK] at hnil
    have x0 := hb2.cell 0
    have x1 := hb2.cell 1
    have x2 := hb2.cell 2
    have x3 := hb2.cell 3
    have x4 := hb2.cell 4
    have x5 := hb2.cell 5
    have x6 := hb2.cell 6
    have x7 := hb2.cell 7
    have x8 := hb2.cell 8
    have x9 := hb2.cell 9
    have x10 := hb2.cell 10
    simp only [NtC, List.getElem?_toArray, List.getElem?_cons_zero, List.getElem?_cons_succ] at x0 x1 x2 x3 x4 x5 x6 x7 x8 x9 x10
    have HhK := Lib.hid hK
    clear hK
    go_wp2_with fail
    clear x0 x1 x2 x3 x4 x5 x6 x7 x8 x9 x10
    have hK := HhK.out
    clear HhK
    refine (within_any _ 15 _ 1 1 [n.node] (rds1 _ _) (by omega)).mono ?_
    rintro e w9 ⟨rfl, rfl⟩
    rw [all_uno]
    obtain ⟨w3, hw3⟩ : ∃ w9, w2.alloc (.cells #[.int .i64 n.node] 3) = w9 := ⟨_, rfl⟩
    have hc3 : Chg Non w2 w3 := hw3 ▸ (Chg.refl _ _).alloc _
    rw [hw3]
    have hC3 := hC2.non hc3
    have hb3 := hb2.non hc3
    clear hc3 hC2 hb2 hw3
    cases h1 : upto 15 n.node with
    | false =>
      have hno : n.may = false := by unfold Nt.may; simp [hK, h1]
      have Hno := Lib.hid hno
      clear hno hK h1
      go_wp2_with fail
      go_ret
      exact ⟨by rw [Hno.out]; rfl, hC3⟩
    | true =>
      have x0 := hb3.cell 0
      have x1 := hb3.cell 1
      have x2 := hb3.cell 2
      have x3 := hb3.cell 3
      have x4 := hb3.cell 4
      have x5 := hb3.cell 5
      have x6 := hb3.cell 6
      have x7 := hb3.cell 7
      have x8 := hb3.cell 8
      have x9 := hb3.cell 9
      have x10 := hb3.cell 10
      simp only [NtC, List.getElem?_toArray, List.getElem?_cons_zero, List.getElem?_cons_succ] at x0 x1 x2 x3 x4 x5 x6 x7 x8 x9 x10
      have HhK := Lib.hid hK
      have Hh1 := Lib.hid h1
      clear hK h1
      go_wp2_with fail
      clear x0 x1 x2 x3 x4 x5 x6 x7 x8 x9 x10
      have hK := HhK.out
      have h1 := Hh1.out
      clear HhK Hh1
      refine (within_any _ 2147483647 _ 3 3 [n.life, n.epoch, n.vep] (rds3 _ _ _ _) (by omega)).mono ?_
      rintro e w9 ⟨rfl, rfl⟩
      rw [all_tri]
      obtain ⟨w4, hw4⟩ : ∃ w9, w3.alloc (.cells #[.int .i64 n.life, .int .i64 n.epoch, .int .i64 n.vep] 3) = w9 := ⟨_, rfl⟩
      have hc4 : Chg Non w3 w4 := hw4 ▸ (Chg.refl _ _).alloc _
      rw [hw4]
      have hC4 := hC3.non hc4
      have hb4 := hb3.non hc4
      clear hc4 hC3 hb3 hw4
      cases h2 : (upto great n.life && upto great n.epoch && upto great n.vep) with
      | false =>
        have hno : n.may = false := by unfold Nt.may; simp [hK, h1, h2]
        have Hno := Lib.hid hno
        clear hno hK h1 h2
        go_wp2_with fail
        go_ret
        exact ⟨by rw [Hno.out]; rfl, hC4⟩
      | true =>
        have x0 := hb4.cell 0
        have x1 := hb4.cell 1
        have x2 := hb4.cell 2
        have x3 := hb4.cell 3
        have x4 := hb4.cell 4
        have x5 := hb4.cell 5
        have x6 := hb4.cell 6
        have x7 := hb4.cell 7
        have x8 := hb4.cell 8
        have x9 := hb4.cell 9
        have x10 := hb4.cell 10
        simp only [NtC, List.getElem?_toArray, List.getElem?_cons_zero, List.getElem?_cons_succ] at x0 x1 x2 x3 x4 x5 x6 x7 x8 x9 x10
        have HhK := Lib.hid hK
        have Hh1 := Lib.hid h1
        have Hh2 := Lib.hid h2
        clear hK h1 h2
        go_wp2_with fail
        clear x0 x1 x2 x3 x4 x5 x6 x7 x8 x9 x10
        have hK := HhK.out
        have h1 := Hh1.out
        have h2 := Hh2.out
        clear HhK Hh1 Hh2
        refine (valid_any n.id _).mono ?_
        rintro e w9 ⟨rfl, rfl⟩
        cases h3 : vid n.id with
        | false =>
          have hno : n.may = false := by unfold Nt.may; simp [hK, h1, h2, h3]
          have Hno := Lib.hid hno
          clear hno hK h1 h2 h3
          go_wp2_with fail
          go_ret
          exact ⟨by rw [Hno.out]; rfl, hC4⟩
        | true =>
          have x0 := hb4.cell 0
          have x1 := hb4.cell 1
          have x2 := hb4.cell 2
          have x3 := hb4.cell 3
          have x4 := hb4.cell 4
          have x5 := hb4.cell 5
          have x6 := hb4.cell 6
          have x7 := hb4.cell 7
          have x8 := hb4.cell 8
          have x9 := hb4.cell 9
          have x10 := hb4.cell 10
          simp only [NtC, List.getElem?_toArray, List.getElem?_cons_zero, List.getElem?_cons_succ] at x0 x1 x2 x3 x4 x5 x6 x7 x8 x9 x10
          have HhK := Lib.hid hK
          have Hh1 := Lib.hid h1
          have Hh2 := Lib.hid h2
          have Hh3 := Lib.hid h3
          clear hK h1 h2 h3
          go_wp2_with fail
          clear x0 x1 x2 x3 x4 x5 x6 x7 x8 x9 x10
          have hK := HhK.out
          have h1 := Hh1.out
          have h2 := Hh2.out
          have h3 := Hh3.out
          clear HhK Hh1 Hh2 Hh3
          refine (within_any _ 31 _ 1 1 [n.fn] (rds1 _ _) (by omega)).mono ?_
          rintro e w9 ⟨rfl, rfl⟩
          rw [all_uno]
          obtain ⟨w5, hw5⟩ : ∃ w9, w4.alloc (.cells #[.int .i64 n.fn] 3) = w9 := ⟨_, rfl⟩
          have hc5 : Chg Non w4 w5 := hw5 ▸ (Chg.refl _ _).alloc _
          rw [hw5]
          have hC5 := hC4.non hc5
          have hb5 := hb4.non hc5
          clear hc5 hC4 hb4 hw5
          cases h4 : upto 31 n.fn with
          | false =>
            have hno : n.may = false := by unfold Nt.may; simp [hK, h1, h2, h3, h4]
            have Hno := Lib.hid hno
            clear hno hK h1 h2 h3 h4
            go_wp2_with fail
            go_ret
            exact ⟨by rw [Hno.out]; rfl, hC5⟩
          | true =>
            cases h5 : decide (n.args.length ≤ 8) with
            | false =>
              have h9 : 8 < k := by have := Hkl.out; have := of_decide_eq_false h5; omega
              have x0 := hb5.cell 0
              have x1 := hb5.cell 1
              have x2 := hb5.cell 2
              have x3 := hb5.cell 3
              have x4 := hb5.cell 4
              have x5 := hb5.cell 5
              have x6 := hb5.cell 6
              have x7 := hb5.cell 7
              have x8 := hb5.cell 8
              have x9 := hb5.cell 9
              have x10 := hb5.cell 10
              simp only [NtC, List.getElem?_toArray, List.getElem?_cons_zero, List.getElem?_cons_succ] at x0 x1 x2 x3 x4 x5 x6 x7 x8 x9 x10
              have hno : n.may = false := by unfold Nt.may; simp [hK, h1, h2, h3, h4, h5]
              have Hno := Lib.hid hno
              clear hno hK h1 h2 h3 h4 h5
              go_wp2_with fail
              go_ret
              exact ⟨by rw [Hno.out]; rfl, hC5⟩
            | true =>
              have h9 : k ≤ 8 := by have := Hkl.out; have := of_decide_eq_true h5; omega
              have x0 := hb5.cell 0
              have x1 := hb5.cell 1
              have x2 := hb5.cell 2
              have x3 := hb5.cell 3
              have x4 := hb5.cell 4
              have x5 := hb5.cell 5
              have x6 := hb5.cell 6
              have x7 := hb5.cell 7
              have x8 := hb5.cell 8
              have x9 := hb5.cell 9
              have x10 := hb5.cell 10
              simp only [NtC, List.getElem?_toArray, List.getElem?_cons_zero, List.getElem?_cons_succ] at x0 x1 x2 x3 x4 x5 x6 x7 x8 x9 x10
              have HhK := Lib.hid hK
              have Hh1 := Lib.hid h1
              have Hh2 := Lib.hid h2
              have Hh3 := Lib.hid h3
              have Hh4 := Lib.hid h4
              have Hh5 := Lib.hid h5
              clear hK h1 h2 h3 h4 h5
              go_wp2_with fail
              clear x0 x1 x2 x3 x4 x5 x6 x7 x8 x9 x10
              have hK := HhK.out
              have h1 := Hh1.out
              have h2 := Hh2.out
              have h3 := Hh3.out
              have h4 := Hh4.out
              have h5 := Hh5.out
              clear HhK Hh1 Hh2 Hh3 Hh4 Hh5
              refine (ended_any _ n.err n.val).mono ?_
              rintro e w6 ⟨rfl, hc6⟩
              have hC6 := hC5.non hc6
              have hb6 := hb5.non hc6
              clear hc6 hC5 hb5
              cases h6 : endB n.err n.val with
              | false =>
                have hno : n.may = false := by unfold Nt.may; simp [hK, h1, h2, h3, h4, h5, h6]
                have Hno := Lib.hid hno
                clear hno hK h1 h2 h3 h4 h5 h6
                go_wp2_with fail
                go_ret
                exact ⟨by rw [Hno.out]; rfl, hC6⟩
              | true =>
                have x0 := hb6.cell 0
                have x1 := hb6.cell 1
                have x2 := hb6.cell 2
                have x3 := hb6.cell 3
                have x4 := hb6.cell 4
                have x5 := hb6.cell 5
                have x6 := hb6.cell 6
                have x7 := hb6.cell 7
                have x8 := hb6.cell 8
                have x9 := hb6.cell 9
                have x10 := hb6.cell 10
                simp only [NtC, List.getElem?_toArray, List.getElem?_cons_zero, List.getElem?_cons_succ] at x0 x1 x2 x3 x4 x5 x6 x7 x8 x9 x10
                have HhK := Lib.hid hK
                have Hh1 := Lib.hid h1
                have Hh2 := Lib.hid h2
                have Hh3 := Lib.hid h3
                have Hh4 := Lib.hid h4
                have Hh5 := Lib.hid h5
                have Hh6 := Lib.hid h6
                clear hK h1 h2 h3 h4 h5 h6
                go_wp2_with fail
                clear x0 x1 x2 x3 x4 x5 x6 x7 x8 x9 x10
                have hK := HhK.out
                have h1 := Hh1.out
                have h2 := Hh2.out
                have h3 := Hh3.out
                have h4 := Hh4.out
                have h5 := Hh5.out
                have h6 := Hh6.out
                clear HhK Hh1 Hh2 Hh3 Hh4 Hh5 Hh6
                refine (members_any _ B m d n.mems (hmems.non hC6) hm63).mono ?_
                rintro e w7 ⟨rfl, hc7⟩
                have hC7 := hC6.non hc7
                have hb7 := hb6.non hc7
                clear hc7 hC6 hb6
                cases h7 : viewB n.mems with
                | false =>
                  have hno : n.may = false := by unfold Nt.may; simp [hK, h1, h2, h3, h4, h5, h6, h7]
                  have Hno := Lib.hid hno
                  clear hno hK h1 h2 h3 h4 h5 h6 h7
                  go_wp2_with fail
                  go_ret
                  exact ⟨by rw [Hno.out]; rfl, hC7⟩
                | true =>
                  have hyes : n.may = true := by unfold Nt.may; simp [hK, h1, h2, h3, h4, h5, h6, h7]
                  have Hyes := Lib.hid hyes
                  clear hyes hK h1 h2 h3 h4 h5 h6 h7
                  go_wp2_with fail
                  go_ret
                  exact ⟨by rw [Hyes.out]; rfl, hC7⟩
end Go.Proofs.Ytflaliomkfbagaa
