/-
  gleanerlaw19.GraphCut: the walk.
-/
import Derived.Test.YtjbiglaohlmknaaGraphLaw
namespace Go.Proofs.Ytjbiglaohlmknaa
open Go.ChangeShapes Go.WideShapes Go.ChangeAt Go.RowKit
set_option linter.unusedVariables false
set_option linter.unusedSimpArgs false

/-- What the law says of the two rows. -/
theorem cut_law {nodes a b : Int} {gone P Q : List Int} (ha : isG nodes a = true) (hb : isG nodes b = true) (hP : ReachIs nodes a gone P) (hQ : ReachIs nodes b gone Q) :
    (∀ y ∈ gone, inI P y = false) ∧ inI P b = inI Q a ∧ (inI P b = true → P = Q) ∧ inI gone a = (P.length == 0) := by
  obtain ⟨g1, g2, g3, g4⟩ := isG_iff.1 ha
  obtain ⟨_, _, k3, k4⟩ := isG_iff.1 hb
  rcases hP with ⟨_, p2, D, hD, rfl⟩ | ⟨p1, rfl⟩
  · have hDa : 0 ≤ D a := (hD.least 0 a .here).1
    have haP : a ∈ reachL nodes.toNat D := mem_reachL.2 ⟨g3, by omega, hDa⟩
    refine ⟨fun y hy => ?_, ?_, ?_, ?_⟩
    · rw [inI_no, mem_reachL]
      rintro ⟨_, _, h⟩
      rcases hD.free y h with rfl | h2
      · exact p2 hy
      · exact h2 hy
    · rcases hQ with ⟨_, q2, E, hE, rfl⟩ | ⟨q1, rfl⟩
      · by_cases h : 0 ≤ D b
        · have := (hD.sym hE p2 h).1
          rw [inI_iff.2 (mem_reachL.2 ⟨k3, by omega, h⟩), inI_iff.2 (mem_reachL.2 ⟨g3, by omega, this⟩)]
        · have : ¬ 0 ≤ E a := fun h2 => h (hE.sym hD q2 h2).1
          rw [inI_no.2 fun hm => h (mem_reachL.1 hm).2.2, inI_no.2 fun hm => this (mem_reachL.1 hm).2.2]
      · have hbg : b ∈ gone := by
          rcases q1 with h | h
          · rw [hb] at h; cases h
          · exact h
        have : ¬ 0 ≤ D b := fun h => by
          rcases hD.free b h with rfl | h2
          · exact p2 hbg
          · exact h2 hbg
        rw [inI_no.2 fun hm => this (mem_reachL.1 hm).2.2]
        rfl
    · intro h
      have hDb := (mem_reachL.1 (inI_iff.1 h)).2.2
      rcases hQ with ⟨_, q2, E, hE, rfl⟩ | ⟨q1, rfl⟩
      · exact reachL_congr fun z => hD.same hE p2 hDb z
      · exfalso
        rcases q1 with h | h
        · rw [hb] at h; cases h
        · rcases hD.free b hDb with rfl | h2
          · exact p2 h
          · exact h2 h
    · rw [inI_no.2 p2]
      have := List.length_pos_of_mem haP
      rw [eq_comm, beq_eq_false_iff_ne]
      omega
  · have hag : a ∈ gone := by
      rcases p1 with h | h
      · rw [ha] at h; cases h
      · exact h
    refine ⟨(fun y hy => rfl), ?_, (fun h => by cases h), ?_⟩
    · rcases hQ with ⟨_, q2, E, hE, rfl⟩ | ⟨q1, rfl⟩
      · have : ¬ 0 ≤ E a := fun h => by
          rcases hE.free a h with rfl | h2
          · exact q2 hag
          · exact h2 hag
        rw [inI_no.2 fun hm => this (mem_reachL.1 hm).2.2]
        rfl
      · rfl
    · rw [inI_iff.2 hag]; rfl

set_option maxRecDepth 100000 in
set_option maxHeartbeats 4000000 in
theorem graphCut_core (w : World) (nodes a b : Int) (A : Option Addr) (n c : Nat) (gone : List Int) (hr : Rds w 1 A n (iv gone)) (v1 : 1 ≤ nodes) (v2 : nodes ≤ 130) (v3 : 0 ≤ a) (v4 : 0 ≤ b) (v5 : a < nodes) (v6 : b < nodes) (hn : n ≤ 40) :
    Calls Try.prog 3 #[.int .i64 nodes, .int .i64 a, .int .i64 b, .slice A n c] w fun e w2 => e = .returned (.bool true) ∧ Chg Non w w2 := by
  have Hr := Lib.hid hr
  have hga : Hid (isG nodes a = true) := isG_iff.2 ⟨v1, by omega, v3, v5⟩
  have hgb : Hid (isG nodes b = true) := isG_iff.2 ⟨v1, by omega, v4, v6⟩
  clear hr
  go_enter Try.func3, Try.ntmps3
  go_wp2_with fail
  refine (galive_any _).mono ?_
  rintro e w1 ⟨rfl, hc1⟩
  go_wp2_with fail
  refine (reach_any w1 nodes a A n c gone (Hr.out.non hc1) (by omega)).mono ?_
  rintro e w2 ⟨vP, nP, P, rfl, hP, hPi, hc2⟩
  have hC2 := hc1.non hc2
  go_wp2_with fail
  refine (reach_any w2 nodes b A n c gone (Hr.out.non hC2) (by omega)).mono ?_
  rintro e w3 ⟨vQ, nQ, Q, rfl, hQ, hQi, hc3⟩
  have hC3 := hC2.non hc3
  have hP3 := hP.non hc3
  obtain ⟨AP, cP, rfl, _, _, hrP, _⟩ := hP3.open_
  obtain ⟨AQ, cQ, rfl, _, _, hrQ, _⟩ := hQ.open_
  have hPs : nP ≤ 9223372036854775807 := by have := (Win.of_own hP3).small; exact this
  have hQs : nQ ≤ 9223372036854775807 := by have := (Win.of_own hQ).small; exact this
  have HPl := Lib.hid (show nP = P.length from hrP.lenMap (f := fun n : Int => .int .i64 n))
  have hlaw := cut_law hga.out hgb.out hPi hQi
  obtain ⟨l1, l2, l3, l4⟩ := hlaw
  have HL1 := Lib.hid l1
  have HL3 := Lib.hid l3
  have Hg3 := Lib.hid (Hr.out.non hC3)
  have HC3 := Lib.hid hC3
  have HrP := Lib.hid hrP
  have HrQ := Lib.hid hrQ
  have hln := Lib.hid (Hr.out.lenMap (f := fun n : Int => .int .i64 n))
  clear hP hQ hPi hQi hc1 hc2 hc3 hC2 hC3 hP3 l1 l3 hrP hrQ Hr
  rw [← HPl.out] at l4
  go_wp2_with fail
  go_loop [12] (fun i => ∃ k : Nat, k ≤ n ∧ i = .int .i64 k) (fun i => n - (intOf i).toNat)
  case atStart => exact ⟨0, Nat.zero_le _, rfl⟩
  case round =>
    obtain ⟨k, hk, rfl⟩ := hrel
    by_cases hlt : k < n
    · obtain ⟨ad, y, rfl, hy, hcell⟩ := Hg3.out.getI hlt
      have hin := refIn_any w3 AP nP cP P y HrP.out hPs
      rw [HL1.out y (List.mem_of_getElem? hy)] at hin
      clear hy
      go_wp2_with fail
      refine hin.mono ?_
      rintro e w8 ⟨rfl, rfl⟩
      go_wp2_with fail
      go_round
      case rel => exact ⟨k + 1, by omega, by go_num⟩
      case measure => simp [intOf]; omega
    · have hx := refIn_any w3 AP nP cP P b HrP.out hPs
      have hy := refIn_any w3 AQ nQ cQ Q a HrQ.out hQs
      rw [← l2] at hy
      have hg := fun wx (hx : Chg Non w3 wx) => refIn_any wx A n c gone a (Hg3.out.non hx) (by omega)
      rw [l4] at hg
      have h00 : ((nP == 0) == (nP == 0)) = true := beq_self_eq_true _
      have hnP : ((nP : Int) == 0) = (nP == 0) := by cases nP <;> rfl
      clear l2 l4
      cases hz : inI P b with
      | false =>
        rw [hz] at hx hy
        clear hz
        go_wp2_with fail
        refine hx.mono ?_
        rintro e w8 ⟨rfl, rfl⟩
        go_wp2_with fail
        refine hy.mono ?_
        rintro e w8 ⟨rfl, rfl⟩
        go_wp2_with fail
        refine (hg w3 (Chg.refl _ _)).mono ?_
        rintro e w8 ⟨rfl, rfl⟩
        go_wp2_with fail
        go_ret
        exact ⟨rfl, HC3.out⟩
      | true =>
        have hPQ := HL3.out hz
        rw [hz] at hx hy
        have hs := sameInts_any w3 AP nP cP P AQ nQ cQ Q HrP.out HrQ.out hPs
        rw [show (P == Q) = true from by rw [hPQ]; exact beq_self_eq_true _] at hs
        clear hz hPQ
        go_wp2_with fail
        refine hx.mono ?_
        rintro e w8 ⟨rfl, rfl⟩
        go_wp2_with fail
        refine hy.mono ?_
        rintro e w8 ⟨rfl, rfl⟩
        go_wp2_with fail
        refine hs.mono ?_
        rintro e w9 ⟨rfl, hc9⟩
        go_wp2_with fail
        refine (hg w9 hc9).mono ?_
        rintro e w8 ⟨rfl, rfl⟩
        go_wp2_with fail
        go_ret
        exact ⟨rfl, HC3.out.non hc9⟩
set_option maxRecDepth 100000 in
set_option maxHeartbeats 4000000 in
theorem graphCut_walk (w : World) (nodes : Int) (h0 : i64 nodes) (a : Int) (h1 : i64 a) (b : Int) (h2 : i64 b) (A : Option Addr) (n c : Nat) (e0 : Rd Try.prog w 22 (Value.slice A n c).cells.toList) :
    Calls Try.prog 3 #[.int .i64 nodes, .int .i64 a, .int .i64 b, .slice A n c] w fun e w2 => e = .returned (.bool true) ∧ Chg Non w w2 := by
  obtain ⟨A', n', c', l, g1, g2, g3, g4, _⟩ := e0.ints Try.underlying22 (by kernel_rfl) Try.underlying3
  simp only [Value.cells, List.cons.injEq, and_true, Value.slice.injEq] at g1
  obtain ⟨rfl, rfl, rfl⟩ := g1
  by_cases hn : 1 ≤ nodes ∧ nodes ≤ 130 ∧ 0 ≤ a ∧ 0 ≤ b ∧ a < nodes ∧ b < nodes ∧ n ≤ 40
  · obtain ⟨k1, k2, k3, k4, k5, k6, k7⟩ := hn
    exact graphCut_core w nodes a b A n c l g4 k1 k2 k3 k4 k5 k6 k7
  · clear g4 e0
    unfold maxLen at g3
    have hcase : nodes < 1 ∨ (1 ≤ nodes ∧ 130 < nodes) ∨ (1 ≤ nodes ∧ nodes ≤ 130 ∧ a < 0) ∨ (1 ≤ nodes ∧ nodes ≤ 130 ∧ 0 ≤ a ∧ b < 0) ∨ (1 ≤ nodes ∧ nodes ≤ 130 ∧ 0 ≤ a ∧ 0 ≤ b ∧ nodes ≤ a) ∨ (1 ≤ nodes ∧ nodes ≤ 130 ∧ 0 ≤ a ∧ 0 ≤ b ∧ a < nodes ∧ nodes ≤ b) ∨ (1 ≤ nodes ∧ nodes ≤ 130 ∧ 0 ≤ a ∧ 0 ≤ b ∧ a < nodes ∧ b < nodes ∧ 40 < n) := by omega
    clear hn
    rcases hcase with k1 | ⟨k1, k2⟩ | ⟨k1, k2, k3⟩ | ⟨k1, k2, k3, k4⟩ | ⟨k1, k2, k3, k4, k5⟩ | ⟨k1, k2, k3, k4, k5, k6⟩ | ⟨k1, k2, k3, k4, k5, k6, k7⟩
    all_goals
      go_enter Try.func3, Try.ntmps3
      go_wp2_with fail
      refine (galive_any _).mono ?_
      rintro e w1 ⟨rfl, hc1⟩
      go_wp2_with fail
      go_ret
      exact ⟨rfl, hc1⟩
end Go.Proofs.Ytjbiglaohlmknaa
