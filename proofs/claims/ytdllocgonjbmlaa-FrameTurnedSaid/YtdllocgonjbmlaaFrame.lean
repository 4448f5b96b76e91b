/-
  frame.within, fine; gleanerref10.node, num, SameFrame.
-/
import Derived.Test.YtdllocgonjbmlaaFramePlain
import Derived.Test.YtdllocgonjbmlaaSums
namespace Go.Proofs.Ytdllocgonjbmlaa
open Go.RowKit
set_option linter.unusedVariables false
set_option linter.unusedSimpArgs false

theorem all_snoc {p : Int → Bool} {l : List Int} {k : Nat} {x : Int} (h : l[k]? = some x) (hp : (l.take k).all p = true) (hx : p x = true) : (l.take (k + 1)).all p = true := by
  rw [List.take_add_one, h]
  simp [hp, hx]
theorem all_no {p : Int → Bool} {l : List Int} {k : Nat} {x : Int} (h : l[k]? = some x) (hx : p x = false) : l.all p = false := by
  rw [List.all_eq_false]
  exact ⟨x, List.mem_of_getElem? h, by simp [hx]⟩
set_option maxRecDepth 100000 in
theorem within_any (w : World) (m : Int) (A : Option Addr) (n c : Nat) (l : List Int) (hr : Rds w 1 A n (iv l)) (hn : n ≤ 9223372036854775807) :
    Calls Try.prog 32 #[.int .i64 m, .slice A n c] w fun e w2 => e = .returned (.bool (l.all (upto m))) ∧ w = w2 := by
  have Hnl := Lib.hid hr.lenMap
  have Hr := Lib.hid hr
  clear hr
  go_enter Try.func32, Try.ntmps32
  go_wp2_with fail
  go_loop [9] (fun i => ∃ k : Nat, k ≤ n ∧ i = .int .i64 k ∧ Hid ((l.take k).all (upto m) = true)) (fun i => n - (intOf i).toNat)
  case atStart => exact ⟨0, Nat.zero_le _, rfl, rfl⟩
  case round =>
    obtain ⟨k, hk, rfl, hall⟩ := hrel
    by_cases hlt : k < n
    · obtain ⟨ad, x, rfl, hx, hcell⟩ := Hr.out.getI hlt
      by_cases h0 : x < 0
      · have hno := Lib.hid (all_no (p := upto m) hx (by unfold upto; rw [decide_eq_false (by omega)]; rfl))
        clear hx
        go_wp2_with fail
        go_ret
        exact ⟨by rw [hno.out]; rfl, rfl⟩
      · by_cases h1 : m < x
        · have hno := Lib.hid (all_no (p := upto m) hx (by unfold upto; rw [decide_eq_false (show ¬ x ≤ m by omega)]; simp))
          clear hx
          go_wp2_with fail
          go_ret
          exact ⟨by rw [hno.out]; rfl, rfl⟩
        · have hyes := Lib.hid (all_snoc (p := upto m) hx hall.out (by rw [upto_iff]; omega))
          clear hx hall
          go_wp2_with fail
          go_round
          case rel => exact ⟨k + 1, by omega, by go_num, hyes⟩
          case measure => simp [intOf]; omega
    · obtain rfl : k = n := by omega
      have hyes : l.all (upto m) = true := by have := hall.out; rwa [List.take_of_length_le (by have := Hnl.out; omega)] at this
      go_wp2_with fail
      go_ret
      exact ⟨rfl, rfl⟩

/-- A frame's value. -/
abbrev frV (f : Fr) (A : Option Addr) (n c : Nat) : Value := .agg #[.int .i64 f.a, .int .i64 f.b, .int .i64 f.c, .int .i64 f.d, .int .i64 f.e, .slice A n c]

theorem fine_two (a b : Int) : [a, b].all (upto 15) = (nodeB a && nodeB b) := by simp
theorem fine_three (a b c : Int) : [a, b, c].all (upto 2147483647) = (numB a && numB b && numB c) := by simp [Bool.and_assoc]

theorem rds2 (w : World) (a b : Int) : Rds (w.alloc (.cells #[.int .i64 a, .int .i64 b] 3)) 1 (some ⟨w.heap.size, 0, none⟩) 2 (iv [a, b]) := Rds.block (Blk.new w 3 #[.int .i64 a, .int .i64 b]) rfl
theorem rds3 (w : World) (a b c : Int) : Rds (w.alloc (.cells #[.int .i64 a, .int .i64 b, .int .i64 c] 3)) 1 (some ⟨w.heap.size, 0, none⟩) 3 (iv [a, b, c]) := Rds.block (Blk.new w 3 #[.int .i64 a, .int .i64 b, .int .i64 c]) rfl
theorem rds5 (w : World) (a b c d e : Int) : Rds (w.alloc (.cells #[.int .i64 a, .int .i64 b, .int .i64 c, .int .i64 d, .int .i64 e] 3)) 1 (some ⟨w.heap.size, 0, none⟩) 5 (iv [a, b, c, d, e]) := Rds.block (Blk.new w 3 #[.int .i64 a, .int .i64 b, .int .i64 c, .int .i64 d, .int .i64 e]) rfl
set_option maxRecDepth 100000 in
theorem fine_any (w : World) (f : Fr) (A : Option Addr) (n c : Nat) :
    Calls Try.prog 15 #[frV f A n c] w fun e w2 => e = .returned (.bool f.fine) ∧ Chg Non w w2 := by
  obtain ⟨w1, hw1⟩ : ∃ w1, w.alloc (.cells #[.int .i64 f.a, .int .i64 f.b, .int .i64 f.c, .int .i64 f.d, .int .i64 f.e, .slice A n c] 24) = w1 := ⟨_, rfl⟩
  have hc1 : Chg Non w w1 := hw1 ▸ (Chg.refl _ _).alloc _
  have hb1 : Blk w1 w.heap.size 24 #[.int .i64 f.a, .int .i64 f.b, .int .i64 f.c, .int .i64 f.d, .int .i64 f.e, .slice A n c] := hw1 ▸ Blk.new _ _ _
  have x0 := hb1.cell 0
  have x1 := hb1.cell 1
  have x2 := hb1.cell 2
  have x3 := hb1.cell 3
  have x4 := hb1.cell 4
  simp only [List.getElem?_toArray, List.getElem?_cons_zero, List.getElem?_cons_succ] at x0 x1 x2 x3 x4
  unfold Fr.fine
  have hs := hc1.size
  go_enter Try.func15, Try.ntmps15
  go_wp2_with fail
  have hc2 : Chg Non w1 (w1.alloc (.cells #[.int .i64 f.a, .int .i64 f.b] 3)) := (Chg.refl _ _).alloc _
  refine (within_any _ 15 _ 2 2 [f.a, f.b] (rds2 _ _ _) (by omega)).mono ?_
  rintro e w2 ⟨rfl, rfl⟩
  rw [fine_two]
  obtain ⟨w2, hw2⟩ : ∃ w2, w1.alloc (.cells #[.int .i64 f.a, .int .i64 f.b] 3) = w2 := ⟨_, rfl⟩
  rw [hw2] at hc2 ⊢
  cases hab : (nodeB f.a && nodeB f.b) with
  | false =>
    clear hw1 hw2 x0 x1
    go_wp2_with fail
    go_ret
    exact ⟨by rw [hab]; rfl, hc1.non hc2⟩
  | true =>
    have y2 := hc2.cell x2 id
    have y3 := hc2.cell x3 id
    have y4 := hc2.cell x4 id
    have hc3 : Chg Non w2 (w2.alloc (.cells #[.int .i64 f.c, .int .i64 f.d, .int .i64 f.e] 3)) := (Chg.refl _ _).alloc _
    clear hw1 hw2 x0 x1 x2 x3 x4
    go_wp2_with fail
    refine (within_any _ 2147483647 _ 3 3 [f.c, f.d, f.e] (rds3 _ _ _ _) (by omega)).mono ?_
    rintro e w3 ⟨rfl, rfl⟩
    rw [fine_three]
    go_wp2_with fail
    go_ret
    exact ⟨by rw [hab]; rfl, (hc1.non hc2).non hc3⟩

theorem node_any (w : World) (x : Int) : Calls Try.prog 19 #[.int .i64 x] w fun e w2 => e = .returned (.bool (nodeB x)) ∧ w = w2 := by
  rw [show nodeB x = (decide (0 ≤ x) && decide (x < 16)) from by unfold nodeB upto; rw [decide_eq_decide.2 (show x ≤ 15 ↔ x < 16 by omega)]]
  by_cases h0 : 0 ≤ x
  all_goals
    first | rw [decide_eq_true h0] | rw [decide_eq_false h0]
    go_enter Try.func19, Try.ntmps19
    go_wp2_with fail
    go_ret
    exact ⟨rfl, rfl⟩
theorem refNum_any (w : World) (x : Int) : Calls Try.prog 20 #[.int .i64 x] w fun e w2 => e = .returned (.bool (numB x)) ∧ w = w2 := by
  unfold numB upto
  by_cases h0 : 0 ≤ x
  all_goals
    first | rw [decide_eq_true h0] | rw [decide_eq_false h0]
    go_enter Try.func20, Try.ntmps20
    go_wp2_with fail
    go_ret
    exact ⟨rfl, rfl⟩

/-- A frame's block, and a value of it. -/
abbrev frC (f : Fr) (A : Option Addr) (n c : Nat) : Array Value := #[.int .i64 f.a, .int .i64 f.b, .int .i64 f.c, .int .i64 f.d, .int .i64 f.e, .slice A n c]
def Fr.same (f g : Fr) : Bool := decide (f.a = g.a) && decide (f.b = g.b) && decide (f.c = g.c) && decide (f.d = g.d) && decide (f.e = g.e) && (f.load == g.load)
theorem Fr.same_self (f : Fr) : f.same f = true := by simp [Fr.same]

set_option maxRecDepth 100000 in
/-- SameFrame of frames that are one. -/
theorem sameFrame_self (w : World) (f : Fr) (A A2 : Option Addr) (n c n2 c2 : Nat) (hr : Rds w 1 A n (bv f.load)) (hr2 : Rds w 1 A2 n2 (bv f.load)) :
    Calls Try.prog 13 #[frV f A n c, frV f A2 n2 c2] w fun e w2 => e = .returned (.bool true) ∧ Chg Non w w2 := by
  obtain ⟨w1, hw1⟩ : ∃ w1, (w.alloc (.cells (frC f A n c) 24)).alloc (.cells (frC f A2 n2 c2) 24) = w1 := ⟨_, rfl⟩
  have hc1 : Chg Non w w1 := hw1 ▸ ((Chg.refl _ _).alloc _).alloc _
  have hb1 : Blk w1 w.heap.size 24 (frC f A n c) := hw1 ▸ (Blk.new _ _ _).alloc _
  have hb2 : Blk w1 (w.heap.size + 1) 24 (frC f A2 n2 c2) := by
    have := Blk.new (w.alloc (.cells (frC f A n c) 24)) 24 (frC f A2 n2 c2)
    rw [hw1, World.size_alloc] at this
    exact this
  have x0 := hb1.cell 0
  have x1 := hb1.cell 1
  have x2 := hb1.cell 2
  have x3 := hb1.cell 3
  have x4 := hb1.cell 4
  have x5 := hb1.cell 5
  have y0 := hb2.cell 0
  have y1 := hb2.cell 1
  have y2 := hb2.cell 2
  have y3 := hb2.cell 3
  have y4 := hb2.cell 4
  have y5 := hb2.cell 5
  simp only [frC, List.getElem?_toArray, List.getElem?_cons_zero, List.getElem?_cons_succ] at x0 x1 x2 x3 x4 x5 y0 y1 y2 y3 y4 y5
  have q1 : ∀ w2, Chg Non w1 w2 → (convert 22 9 (.slice A n c)).run Try.prog w2 = .ok (.string ⟨f.load.toArray⟩) w2 := fun w2 h => run_string_rds Try.underlying22 Try.underlying5 Try.underlying9 ((hr.non hc1).non h) c
  have q2 : ∀ w2, Chg Non w1 w2 → (convert 22 9 (.slice A2 n2 c2)).run Try.prog w2 = .ok (.string ⟨f.load.toArray⟩) w2 := fun w2 h => run_string_rds Try.underlying22 Try.underlying5 Try.underlying9 ((hr2.non hc1).non h) c2
  have q1 := q1 w1 (Chg.refl _ _)
  have q2 := q2 w1 (Chg.refl _ _)
  go_enter Try.func13, Try.ntmps13
  go_wp2_with fail
  go_ret
  exact ⟨rfl, hc1⟩
end Go.Proofs.Ytdllocgonjbmlaa
