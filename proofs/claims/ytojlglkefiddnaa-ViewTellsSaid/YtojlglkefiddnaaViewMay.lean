/-
  view.May; view.Has, view.Fenced; slices.Contains over numbers and members.
-/
import Derived.Test.YtojlglkefiddnaaMembers
namespace Go.Proofs.Ytojlglkefiddnaa
open Go.RowKit
set_option linter.unusedVariables false
set_option linter.unusedSimpArgs false

def countB (n : Int) : Bool := decide (1 ≤ n) && decide (n ≤ 2147483647)
def nodeB (n : Int) : Bool := decide (0 ≤ n) && decide (n < 16)
theorem counts_any (n : Int) (w : World) : Calls Try.prog 33 #[.int .i64 n] w fun e w2 => e = .returned (.bool (countB n)) ∧ w = w2 := by
  by_cases h : 1 ≤ n
  · have hc : countB n = decide (n ≤ 2147483647) := by unfold countB; rw [decide_eq_true h]; rfl
    have Hc := Lib.hid hc
    clear hc
    go_enter Try.func33, Try.ntmps33
    go_wp2_with fail
    go_ret
    exact ⟨by rw [Hc.out]; rfl, rfl⟩
  · have hc : countB n = false := by unfold countB; rw [decide_eq_false h]; rfl
    have Hc := Lib.hid hc
    clear hc
    go_enter Try.func33, Try.ntmps33
    go_wp2_with fail
    go_ret
    exact ⟨by rw [Hc.out]; rfl, rfl⟩
theorem node_any (n : Int) (w : World) : Calls Try.prog 32 #[.int .i64 n] w fun e w2 => e = .returned (.bool (nodeB n)) ∧ w = w2 := by
  by_cases h : 0 ≤ n
  · have hc : nodeB n = decide (n < 16) := by unfold nodeB; rw [decide_eq_true h]; rfl
    have Hc := Lib.hid hc
    clear hc
    go_enter Try.func32, Try.ntmps32
    go_wp2_with fail
    go_ret
    exact ⟨by rw [Hc.out]; rfl, rfl⟩
  · have hc : nodeB n = false := by unfold nodeB; rw [decide_eq_false h]; rfl
    have Hc := Lib.hid hc
    clear hc
    go_enter Try.func32, Try.ntmps32
    go_wp2_with fail
    go_ret
    exact ⟨by rw [Hc.out]; rfl, rfl⟩

/-- Members that rise from behind a number on, and can be. -/
def okFrom : Int → List Mb → Bool
  | _, [] => true
  | last, m :: r => decide (last < m.1) && nodeB m.1 && countB m.2 && okFrom m.1 r
/-- A view that can be. -/
def mayB (ep : Int) (L : List Mb) : Bool := okFrom (-1) L && countB ep && (match L with | [] => false | m :: _ => m.1 == 0)
theorem okFrom_drop {L : List Mb} {k : Nat} {m : Mb} (h : L[k]? = some m) (last : Int) : okFrom last (L.drop k) = (decide (last < m.1) && nodeB m.1 && countB m.2 && okFrom m.1 (L.drop (k + 1))) := by
  obtain ⟨hk, hm⟩ := List.getElem?_eq_some_iff.1 h
  rw [List.drop_eq_getElem_cons hk, hm]
  rfl

set_option maxRecDepth 100000 in
set_option maxHeartbeats 600000 in
theorem may_any (w : World) (ep : Int) (A : Option Addr) (n c : Nat) (L : List Mb) (h1 : Rds w 2 A n (mv L)) (hn : n ≤ 9223372036854775807) :
    Calls Try.prog 13 #[.agg #[.int .i64 ep, .slice A n c]] w fun e w2 => e = .returned (.bool (mayB ep L)) ∧ Chg Non w w2 := by
  obtain ⟨w1, hw1⟩ : ∃ w1, w.alloc (.cells #[.int .i64 ep, .slice A n c] 26) = w1 := ⟨_, rfl⟩
  have hC : Chg Non w w1 := hw1 ▸ (Chg.refl _ _).alloc _
  have hb : Blk w1 w.heap.size 26 #[.int .i64 ep, .slice A n c] := hw1 ▸ Blk.new _ _ _
  have H1 := Lib.hid (h1.non hC)
  have c0 := hb.cell 0
  have c1 := hb.cell 1
  simp only [List.getElem?_toArray, List.getElem?_cons_zero, List.getElem?_cons_succ] at c0 c1
  clear h1
  go_enter Try.func13, Try.ntmps13
  go_wp2_with fail
  clear hw1
  go_loopw [3, 9] (fun l i wr => ∃ (k : Nat) (last : Int), k ≤ n ∧ i = .int .i64 k ∧ l = .int .i64 last ∧ Hid (okFrom (-1) L = okFrom last (L.drop k)) ∧ Chg Non w1 wr) (fun _ i _ => n - (intOf i).toNat)
  case atStart => exact ⟨0, -1, Nat.zero_le _, rfl, rfl, rfl, Chg.refl _ _⟩
  case round =>
    clear c0 c1
    obtain ⟨k, last, hk, rfl, rfl, hok, hC2⟩ := hrel
    by_cases hlt : k < n
    · obtain ⟨ad, m, rfl, hx, hc0, hc1⟩ := H1.out.getM hlt
      have a0 := hC2.cell hc0 id
      have a1 := hC2.cell hc1 id
      have hst := okFrom_drop hx last
      have hlt2 := World.block_lt_of_cell? wr _ a0
      have hlt3 := World.block_lt_of_cell? wr _ a1
      have hCa := hC2.alloc (.cells #[.int .i64 m.1, .int .i64 m.2] 43)
      cases hb1 : decide (last < m.1) with
      | false =>
        have hno : mayB ep L = false := by unfold mayB; rw [hok.out, hst, hb1]; rfl
        have hle : m.1 ≤ last := by simpa using hb1
        have Hno := Lib.hid hno
        clear hno hst hb1 hx hc0 hc1 hok
        go_wp2_with fail
        go_ret
        exact ⟨by rw [Hno.out]; rfl, hC.non hCa⟩
      | true =>
        have hgt : last < m.1 := by simpa using hb1
        cases hb2 : nodeB m.1 with
        | false =>
          have hno : mayB ep L = false := by unfold mayB; rw [hok.out, hst, hb1, hb2]; rfl
          have Hno := Lib.hid hno
          have Hb2 := Lib.hid hb2
          clear hno hst hb1 hb2 hx hc0 hc1 hok
          go_wp2_with fail
          refine (node_any _ _).mono ?_
          rintro e w9 ⟨rfl, rfl⟩
          rw [Hb2.out]
          go_wp2_with fail
          go_ret
          exact ⟨by rw [Hno.out]; rfl, hC.non hCa⟩
        | true =>
          cases hb3 : countB m.2 with
          | false =>
            have hno : mayB ep L = false := by unfold mayB; rw [hok.out, hst, hb1, hb2, hb3]; rfl
            have Hno := Lib.hid hno
            have Hb2 := Lib.hid hb2
            have Hb3 := Lib.hid hb3
            clear hno hst hb1 hb2 hb3 hx hc0 hc1 hok
            go_wp2_with fail
            refine (node_any _ _).mono ?_
            rintro e w9 ⟨rfl, rfl⟩
            rw [Hb2.out]
            go_wp2_with fail
            refine (counts_any _ _).mono ?_
            rintro e w9 ⟨rfl, rfl⟩
            rw [Hb3.out]
            go_wp2_with fail
            go_ret
            exact ⟨by rw [Hno.out]; rfl, hC.non hCa⟩
          | true =>
            have hok2 : Hid (okFrom (-1) L = okFrom m.1 (L.drop (k + 1))) := by
              show _ = _
              rw [hok.out, hst, hb1, hb2, hb3]
              rfl
            have Hb2 := Lib.hid hb2
            have Hb3 := Lib.hid hb3
            clear hst hb1 hb2 hb3 hx hc0 hc1 hok
            go_wp2_with fail
            refine (node_any _ _).mono ?_
            rintro e w9 ⟨rfl, rfl⟩
            rw [Hb2.out]
            go_wp2_with fail
            refine (counts_any _ _).mono ?_
            rintro e w9 ⟨rfl, rfl⟩
            rw [Hb3.out]
            go_wp2_with fail
            go_roundw
            case rel => exact ⟨k + 1, m.1, by omega, by go_num, rfl, hok2, hCa⟩
            case measure => simp [intOf]; omega
    · have hall : okFrom (-1) L = true := by
        rw [hok.out, List.drop_of_length_le (by have := mv_len H1.out; omega)]
        rfl
      have hbr := hb.non hC2
      have c0 := hbr.cell 0
      have c1 := hbr.cell 1
      simp only [List.getElem?_toArray, List.getElem?_cons_zero, List.getElem?_cons_succ] at c0 c1
      cases hb1 : countB ep with
      | false =>
        have hno : mayB ep L = false := by unfold mayB; rw [hall, hb1]; rfl
        have Hno := Lib.hid hno
        have Hb1 := Lib.hid hb1
        clear hno hb1 hok hall
        go_wp2_with fail
        refine (counts_any _ _).mono ?_
        rintro e w9 ⟨rfl, rfl⟩
        rw [Hb1.out]
        go_wp2_with fail
        go_ret
        exact ⟨by rw [Hno.out]; rfl, hC.non hC2⟩
      | true =>
        have Hb1 := Lib.hid hb1
        rcases Nat.eq_zero_or_pos n with h0 | h0
        · have hL : L = [] := List.eq_nil_of_length_eq_zero (by have := mv_len H1.out; omega)
          have hno : mayB ep L = false := by unfold mayB; rw [hall, hb1, hL]; rfl
          have Hno := Lib.hid hno
          clear hno hb1 hok hall hL
          subst h0
          go_wp2_with fail
          refine (counts_any _ _).mono ?_
          rintro e w9 ⟨rfl, rfl⟩
          rw [Hb1.out]
          go_wp2_with fail
          go_ret
          exact ⟨by rw [Hno.out]; rfl, hC.non hC2⟩
        · obtain ⟨ad, m, rfl, hx, hc0, _⟩ := H1.out.getM h0
          have hno : mayB ep L = (m.1 == 0) := by
            unfold mayB
            rw [hall, hb1]
            cases L with
            | nil => simp at hx
            | cons m2 r => simp at hx; subst hx; rfl
          have Hno := Lib.hid hno
          have a0 : wr.cell? ad = some (.int .i64 m.1) := by have := hC2.cell hc0 id; simpa [Addr.add] using this
          clear hno hb1 hok hall hx hc0
          go_wp2_with fail
          refine (counts_any _ _).mono ?_
          rintro e w9 ⟨rfl, rfl⟩
          rw [Hb1.out]
          go_wp2_with fail
          go_ret
          exact ⟨by rw [Hno.out]; rfl, hC.non hC2⟩
end Go.Proofs.Ytojlglkefiddnaa
