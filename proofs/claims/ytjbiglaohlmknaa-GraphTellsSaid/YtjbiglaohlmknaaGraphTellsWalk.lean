/-
  gleanerlaw19.GraphTells: the walk.
-/
import Derived.Test.YtjbiglaohlmknaaGraphRefFar
import Derived.Test.YtjbiglaohlmknaaGraphLaw
namespace Go.Proofs.Ytjbiglaohlmknaa
open Go.ChangeShapes Go.WideShapes Go.ChangeAt Go.RowKit
set_option linter.unusedVariables false
set_option linter.unusedSimpArgs false

theorem ReachIs.one {nodes a : Int} {gone L M : List Int} (h : ReachIs nodes a gone L) (g : ReachIs nodes a gone M) : L = M := by
  rcases h with ⟨h1, h2, D, hD, rfl⟩ | ⟨h1, rfl⟩
  · rcases g with ⟨g1, g2, E, hE, rfl⟩ | ⟨g1, rfl⟩
    · exact reachL_congr fun z => by rw [hD.one hE z]
    · rcases g1 with e | e
      · rw [h1] at e; cases e
      · exact (h2 e).elim
  · rcases g with ⟨g1, g2, E, hE, rfl⟩ | ⟨g1, rfl⟩
    · rcases h1 with e | e
      · rw [g1] at e; cases e
      · exact (g2 e).elim
    · rfl
theorem FarIs.one {nodes a b r s : Int} (h : FarIs nodes a b r) (g : FarIs nodes a b s) : r = s := by
  rcases h with ⟨h1, h2, D, hD, rfl⟩ | ⟨h1, rfl⟩
  · rcases g with ⟨g1, g2, E, hE, rfl⟩ | ⟨g1, rfl⟩
    · exact hD.one hE b
    · rcases g1 with e | e
      · rw [h1] at e; cases e
      · rw [h2] at e; cases e
  · rcases g with ⟨g1, g2, E, hE, rfl⟩ | ⟨g1, rfl⟩
    · rcases h1 with e | e
      · rw [g1] at e; cases e
      · rw [g2] at e; cases e
    · rfl
theorem FarIs.sym {nodes a b r s : Int} (h : FarIs nodes a b r) (g : FarIs nodes b a s) : s = r := by
  rcases h with ⟨h1, h2, D, hD, rfl⟩ | ⟨h1, rfl⟩
  · rcases g with ⟨g1, g2, E, hE, rfl⟩ | ⟨g1, rfl⟩
    · by_cases hz : 0 ≤ D b
      · have k1 := hD.sym hE (by simp) hz
        have k2 := hE.sym hD (by simp) k1.1
        omega
      · have hz2 : ¬ 0 ≤ E a := fun h => hz (hE.sym hD (by simp) h).1
        rw [hD.no b (by omega), hE.no a (by omega)]
    · rcases g1 with e | e
      · rw [h2] at e; cases e
      · rw [h1] at e; cases e
  · rcases g with ⟨g1, g2, E, hE, rfl⟩ | ⟨g1, rfl⟩
    · rcases h1 with e | e
      · rw [g2] at e; cases e
      · rw [g1] at e; cases e
    · rfl

set_option maxRecDepth 100000 in
set_option maxHeartbeats 4000000 in
theorem graphTells_core (w : World) (nodes a b : Int) (A : Option Addr) (n c : Nat) (gone : List Int) (hr : Rds w 1 A n (iv gone)) (v1 : nodes ≤ 300) (hn : n ≤ 100) :
    Calls Try.prog 4 #[.int .i64 nodes, .int .i64 a, .int .i64 b, .slice A n c] w fun e w2 => e = .returned (.bool true) ∧ Chg Non w w2 := by
  have Hr := Lib.hid hr
  clear hr
  go_enter Try.func4, Try.ntmps4
  go_wp2_with fail
  refine (galive_any _).mono ?_
  rintro e w1 ⟨rfl, hc1⟩
  go_wp2_with fail
  refine (lines_any nodes a w1).mono ?_
  rintro e w2 ⟨vL, nL, rfl, hL, hc2⟩
  have hC2 := hc1.non hc2
  have hsz1 := hc1.size
  clear hc2
  go_wp2_with fail
  refine (reach_any w2 nodes a A n c gone (Hr.out.non hC2) (by omega)).mono ?_
  rintro e w3 ⟨vP, nP, P, rfl, hP, hPi, hc3⟩
  have hC3 := hC2.non hc3
  have hL3 := hL.non hc3
  clear hL hc3 hC2
  go_wp2_with fail
  refine (refLines_any nodes a w3).mono ?_
  rintro e w4 ⟨vM, nM, rfl, hM, hc4⟩
  have hC4 := hC3.non hc4
  have hL4 := hL3.non hc4
  have hP4 := hP.non hc4
  clear hC3 hL3 hc4 hP
  obtain ⟨AL, cL, rfl, _, hcL, hrL, _⟩ := hL4.open_
  obtain ⟨AM, cM, rfl, _, _, hrM, _⟩ := hM.open_
  have hnL : nL ≤ 9223372036854775807 := by have := (Win.of_own hL4).small; exact this
  have hs := sameInts_any w4 AL nL cL _ AM nM cM _ hrL hrM hnL
  rw [beq_self_eq_true] at hs
  clear hrL hrM hM
  go_wp2_with fail
  refine hs.mono ?_
  rintro e w5 ⟨rfl, hc5⟩
  have hC5 := hC4.non hc5
  have hL5 := hL4.non hc5
  have hP5 := hP4.non hc5
  clear hC4 hL4 hP4 hc5 hs
  go_wp2_with fail
  refine (refReach_any w5 nodes a A n c gone (Hr.out.non hC5) (by omega)).mono ?_
  rintro e w6 ⟨vQ, nQ, Q, rfl, hQ, hQi, hc6⟩
  obtain rfl := hPi.one hQi
  have hC6 := hC5.non hc6
  have hL6 := hL5.non hc6
  have hP6 := hP5.non hc6
  clear hC5 hL5 hP5 hc6 hPi hQi
  obtain ⟨AP, cP, rfl, _, _, hrP, _⟩ := hP6.open_
  obtain ⟨AQ, cQ, rfl, _, _, hrQ, _⟩ := hQ.open_
  have hnP : nP ≤ 9223372036854775807 := by have := (Win.of_own hP6).small; exact this
  have hs := sameInts_any w6 AP nP cP _ AQ nQ cQ _ hrP hrQ hnP
  rw [beq_self_eq_true] at hs
  clear hrP hrQ hP6 hQ
  go_wp2_with fail
  refine hs.mono ?_
  rintro e w7 ⟨rfl, hc7⟩
  have hC7 := hC6.non hc7
  have hL7 := hL6.non hc7
  clear hC6 hL6 hc7 hs
  have hl7 : Hid (∃ xs, OwnR rkN w7 w1.heap.size (.slice AL nL cL) nL xs) := ⟨_, hL7⟩
  clear hL7
  go_wp2_with fail
  go_loopw [13] (fun i wr => ∃ k : Nat, k ≤ nL ∧ i = .int .i64 k ∧ Hid (∃ xs, OwnR rkN wr w1.heap.size (.slice AL nL cL) nL xs) ∧ Chg Non w wr) (fun i _ => nL - (intOf i).toNat)
  case atStart => exact ⟨0, Nat.zero_le _, rfl, hl7, hC7⟩
  case round =>
    clear hl7 hC7
    obtain ⟨k, hk, rfl, hl, hC⟩ := hrel
    by_cases hlt : k < nL
    · obtain ⟨xs, hx⟩ := hl.out
      obtain ⟨g, cap, hv, hg1, hg2⟩ := World.ownsRow.form hx (by omega)
      injection hv with e1 e2 e3
      subst e1 e3
      have hlen : xs.length = nL * 1 := hx.1
      have q : wr.cell? ⟨g, k, none⟩ = xs[k]? := World.ownsRow.cellAt hx k (by show k < nL * 1; omega)
      rw [List.getElem?_eq_getElem (by omega)] at q
      have f : wr.frozen? ⟨g, k, none⟩ = false := World.ownsRow.frozenAt hx k
      have hst := (World.ownsRow.stored hx k (.int .i64 (-1))).1
      have hl2 : Hid (∃ xs, OwnR rkN (wr.setCell ⟨g, k, none⟩ (.int .i64 (-1))) w1.heap.size (.slice (some ⟨g, 0, none⟩) nL cL) nL xs) := ⟨_, hst⟩
      have hC2 := hC.setCell (p := ⟨g, k, none⟩) (.inr (by show w.heap.size ≤ g; omega)) (.int .i64 (-1))
      clear hst hx hl hC
      go_wp2_with fail
      go_roundw
      case rel => exact ⟨k + 1, by omega, by go_num, hl2, hC2⟩
      case measure => simp [intOf]; omega
    · clear hl
      go_wp2_with fail
      refine (far2_any _ nodes a b).mono ?_
      rintro e w8 ⟨r1, rfl, hf1, hc8⟩
      have hC8 := hC.non hc8
      clear hc8 hC
      go_wp2_with fail
      refine (refFar_any _ nodes a b).mono ?_
      rintro e w9 ⟨r2, rfl, hf2, hc9⟩
      obtain rfl := hf1.one hf2
      have hC9 := hC8.non hc9
      have hrr : (r1 == r1) = true := beq_self_eq_true _
      clear hc9 hC8 hf2
      go_wp2_with fail
      refine (far2_any _ nodes b a).mono ?_
      rintro e w10 ⟨r3, rfl, hf3, hc10⟩
      obtain rfl := hf1.sym hf3
      have hC10 := hC9.non hc10
      clear hc10 hC9 hf3
      go_wp2_with fail
      refine (far2_any _ nodes a b).mono ?_
      rintro e w11 ⟨r4, rfl, hf4, hc11⟩
      obtain rfl := hf4.one hf1
      have hC11 := hC10.non hc11
      clear hc11 hC10 hf1 hf4
      go_wp2_with fail
      go_ret
      exact ⟨rfl, hC11⟩
set_option maxRecDepth 100000 in
set_option maxHeartbeats 4000000 in
theorem graphTells_walk (w : World) (nodes : Int) (h0 : i64 nodes) (a : Int) (h1 : i64 a) (b : Int) (h2 : i64 b) (A : Option Addr) (n c : Nat) (e0 : Rd Try.prog w 22 (Value.slice A n c).cells.toList) :
    Calls Try.prog 4 #[.int .i64 nodes, .int .i64 a, .int .i64 b, .slice A n c] w fun e w2 => e = .returned (.bool true) ∧ Chg Non w w2 := by
  obtain ⟨A', n', c', l, g1, g2, g3, g4, _⟩ := e0.ints Try.underlying22 (by kernel_rfl) Try.underlying3
  simp only [Value.cells, List.cons.injEq, and_true, Value.slice.injEq] at g1
  obtain ⟨rfl, rfl, rfl⟩ := g1
  by_cases hn : nodes ≤ 300 ∧ n ≤ 100
  · exact graphTells_core w nodes a b A n c l g4 hn.1 hn.2
  · clear g4 e0
    unfold maxLen at g3
    have hcase : 300 < nodes ∨ (nodes ≤ 300 ∧ 100 < n) := by omega
    clear hn
    rcases hcase with k1 | ⟨k1, k2⟩
    all_goals
      go_enter Try.func4, Try.ntmps4
      go_wp2_with fail
      refine (galive_any _).mono ?_
      rintro e w1 ⟨rfl, hc1⟩
      go_wp2_with fail
      go_ret
      exact ⟨rfl, hc1⟩
end Go.Proofs.Ytjbiglaohlmknaa
