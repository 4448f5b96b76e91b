/-
  gleanerlaw19.GraphAll: the walk.
-/
import Derived.Test.YtjbiglaohlmknaaGraphBits
namespace Go.Proofs.Ytjbiglaohlmknaa
open Go.ChangeShapes Go.WideShapes Go.ChangeAt Go.RowKit
set_option linter.unusedVariables false
set_option linter.unusedSimpArgs false

/-- Everyone is come to. -/
theorem all_found {N a : Nat} {D : Int → Int} (hN : N ≤ 4096) (ha : a < N) (h : Fin N [] a D) (z : Nat) (hz : z < N) : 0 ≤ D z := by
  have h1 := way_last N (by omega) hN _ a ha rfl
  have h2 := (way_last N (by omega) hN _ z hz rfl).back (by simp)
  exact (h.least _ _ (h1.trans h2)).1
theorem reach_all {N a : Nat} {L : List Int} (hN : N ≤ 4096) (ha : a < N) (h : ReachIs N a [] L) : L.length = N := by
  rcases h with ⟨_, _, D, hD, rfl⟩ | ⟨h1 | h1, rfl⟩
  · unfold reachL
    rw [List.length_map, Int.toNat_natCast, List.filter_eq_self.2 fun i hi => decide_eq_true (all_found hN ha hD i (List.mem_range.1 hi)), List.length_range]
  · rw [isG_iff.2 ⟨by omega, by omega, by omega, by omega⟩] at h1; cases h1
  · cases h1
/-- As many lines as bits differ. -/
theorem far_bits {N a : Nat} {r : Int} (hN : N ≤ 4096) (ha : a < N) (h : FarIs N a ((N - 1 : Nat) : Int) r) : r = cntB (a ^^^ (N - 1)) 12 := by
  rcases h with ⟨_, _, D, hD, rfl⟩ | ⟨h1 | h1, rfl⟩
  · have h1 := hD.least _ _ (way_last N (by omega) hN _ a ha rfl)
    have h2 := (hD.way _ h1.1).bits 12
    rw [Int.toNat_natCast, Int.toNat_natCast] at h2
    omega
  · rw [isG_iff.2 ⟨by omega, by omega, by omega, by omega⟩] at h1; cases h1
  · rw [isG_iff.2 ⟨by omega, by omega, by omega, by omega⟩] at h1; cases h1

theorem and1 (x : Int) : bits .and .i64 x 1 = x % 2 := by
  show IntKind.i64.wrap ((BitVec.ofInt 64 x &&& BitVec.ofInt 64 1).toNat : Int) = _
  rw [BitVec.toNat_and, show (BitVec.ofInt 64 1).toNat = 2 ^ 1 - 1 from rfl, Nat.and_two_pow_sub_one_eq_mod, BitVec.toNat_ofInt, IntKind.wrap_i64]
  omega
theorem bit_at (x q : Nat) : (bits .and .i64 ((x : Int) / 2 ^ q) 1 == 1) = x.testBit q := by
  rw [and1, Nat.testBit_eq_decide_div_mod_eq]
  have e : (x : Int) / 2 ^ q % 2 = ((x / 2 ^ q % 2 : Nat) : Int) := by push_cast; rfl
  rw [e]
  by_cases h : x / 2 ^ q % 2 = 1
  · rw [h]; rfl
  · rw [decide_eq_false h, beq_eq_false_iff_ne]
    omega

set_option maxRecDepth 100000 in
set_option maxHeartbeats 4000000 in
theorem graphAll_core (w : World) (N a : Nat) (h1 : 1 ≤ N) (h2 : N ≤ 300) (ha : a < N) :
    Calls Try.prog 5 #[.int .i64 (N : Int), .int .i64 (a : Int)] w fun e w2 => e = .returned (.bool true) ∧ Chg Non w w2 := by
  go_enter Try.func5, Try.ntmps5
  go_wp2_with fail
  refine (galive_any _).mono ?_
  rintro e w1 ⟨rfl, hc1⟩
  go_wp2_with fail
  refine (reach_any w1 N a none 0 0 [] (Win.nil rkN w1).rds (by omega)).mono ?_
  rintro e w2 ⟨vP, nP, P, rfl, hP, hPi, hc2⟩
  obtain ⟨AP, cP, rfl, _, _, hrP, _⟩ := hP.open_
  obtain rfl : nP = N := by have := hrP.lenMap (f := fun n : Int => .int .i64 n); rw [reach_all (by omega) ha hPi] at this; exact this
  have hC2 := hc1.non hc2
  clear hP hPi hrP hc1 hc2
  go_wp2_with fail
  go_loop [6, 7] (fun m b => ∃ k : Nat, k ≤ 12 ∧ m = .int .i64 k ∧ b = .int .i64 (pw k) ∧ Hid (∀ i, i < k → pw i < nP)) (fun _ b => (2 * nP - intOf b).toNat)
  case atStart => exact ⟨0, by omega, rfl, rfl, fun i hi => by omega⟩
  case round =>
    obtain ⟨k, hk, rfl, rfl, hlt⟩ := hrel
    have hps := pw_succ k
    have hpp := pw_pos k
    by_cases hkl : pw k < nP
    · have hk12 : k < 12 := by
        rcases Nat.lt_or_ge k 12 with h | h
        · exact h
        · have := pw_mono h; rw [pw12] at this; omega
      have hlt2 : Hid (∀ i, i < k + 1 → pw i < nP) := fun i hi => by
        by_cases h : i < k
        · exact hlt.out i h
        · obtain rfl : i = k := by omega
          exact hkl
      have i2 : IntKind.i64.wrap (2 * pw k) = pw (k + 1) := by rw [hps, IntKind.wrap_i64]; omega
      clear hlt
      go_wp2_with fail
      go_round
      case rel => exact ⟨k + 1, by omega, by go_num, by rw [hps], hlt2⟩
      case measure => simp [intOf]; omega
    · have hbn := bitsN_at hk (fun i hi => hlt.out i hi) (show (nP : Int) ≤ pw k by omega)
      go_wp2_with fail
      refine (lines_any nP a w2).mono ?_
      rintro e w3 ⟨vL, nL, rfl, hL, hc3⟩
      have hC3 := hC2.non hc3
      obtain ⟨AL, cL, rfl, _, _, hrL, _⟩ := hL.open_
      have hnL := Lib.hid (show nL = (linesG nP a).length from hrL.lenMap (f := fun n : Int => .int .i64 n))
      have hle : nL ≤ k := by
        have := hnL.out
        unfold linesG at this
        split at this
        · rw [risen_len (linesK_nodup _ _ _), hbn] at this
          have := linesK_len nP a k
          omega
        · simp at this; omega
      have HrL : Hid (∀ wx, Chg Non w3 wx → Rds wx 1 AL nL (iv (linesG nP a))) := fun wx hx => hrL.non hx
      clear hL hrL hc3 hlt hkl hps hpp
      have dk1 : decide (k < nL) = false := decide_eq_false (by omega)
      have dk2 : decide ((k : Int) < (nL : Int)) = false := decide_eq_false (by omega)
      go_wp2_with fail
      go_loopw [9, 10] (fun i _ wr => ∃ j : Nat, j ≤ nL ∧ i = .int .i64 j ∧ Chg Non w3 wr) (fun i _ _ => nL - (intOf i).toNat)
      case atStart => exact ⟨0, Nat.zero_le _, rfl, Chg.refl _ _⟩
      case round =>
        obtain ⟨j, hj, rfl, hCr⟩ := hrel
        by_cases hjn : j < nL
        · obtain ⟨ad, y, rfl, hy, hcell⟩ := (HrL.out _ hCr).getI hjn
          have Hback := Lib.hid (lines_back (List.mem_of_getElem? hy))
          clear hy
          go_wp2_with fail
          refine (lines_any nP y wr).mono ?_
          rintro e w5 ⟨vB, nB, rfl, hB, hc5⟩
          obtain ⟨AB, cB, rfl, _, _, hrB, _⟩ := hB.open_
          have hBs : nB ≤ 9223372036854775807 := by have := (Win.of_own hB).small; exact this
          have hin := refIn_any w5 AB nB cB _ (a : Int) hrB hBs
          rw [inI_iff.2 Hback.out] at hin
          have hC5 := hCr.non hc5
          clear hB hrB hc5 hCr hcell Hback
          go_wp2_with fail
          refine hin.mono ?_
          rintro e w6 ⟨rfl, rfl⟩
          go_wp2_with fail
          go_roundw
          case rel => exact ⟨j + 1, by omega, by go_num, hC5⟩
          case measure => simp [intOf]; omega
        · obtain ⟨x, hxe⟩ : ∃ x, a ^^^ (nP - 1) = x := ⟨_, rfl⟩
          have hxl : x < 512 := by rw [← hxe]; exact Nat.xor_lt_two_pow (n := 9) (by omega) (by omega)
          have hx : bits .xor .i64 (a : Int) ((nP : Int) - 1) = x := by
            rw [i64_xor _ _ (by omega) (by omega) (by omega) (by omega)]
            unfold xorI
            rw [Int.toNat_natCast, show ((nP : Int) - 1).toNat = nP - 1 by omega, hxe]
          have Hxe := Lib.hid hxe
          clear HrL hxe
          go_wp2_with fail
          go_loop [11, 13] (fun m i => ∃ q : Nat, q ≤ 10 ∧ i = .int .i64 q ∧ m = .int .i64 (cntB x q : Nat)) (fun _ i => 10 - (intOf i).toNat)
          case atStart => exact ⟨0, by omega, rfl, rfl⟩
          case round =>
            obtain ⟨q, hq, rfl, rfl⟩ := hrel
            by_cases hq10 : q < 10
            · have hcs := cntB_succ x q
              have hbit := bit_at x q
              have hcl : cntB x q ≤ 10 := by
                unfold cntB
                have := List.length_filter_le (fun i => x.testBit i) (List.range q)
                rw [List.length_range] at this
                exact Nat.le_trans this hq
              cases hb : x.testBit q with
              | false =>
                rw [hb] at hbit hcs
                have Hcs : Hid (cntB x (q + 1) = cntB x q) := hcs
                clear hcs hb
                go_wp2_with fail
                go_round
                case rel => exact ⟨q + 1, by omega, by go_num, by rw [Hcs.out]⟩
                case measure => simp [intOf]; omega
              | true =>
                rw [hb] at hbit hcs
                have Hcs : Hid (cntB x (q + 1) = cntB x q + 1) := hcs
                clear hcs hb
                go_wp2_with fail
                go_round
                case rel => exact ⟨q + 1, by omega, by go_num, by rw [Hcs.out]; go_num⟩
                case measure => simp [intOf]; omega
            · obtain rfl : q = 10 := by omega
              have hb12 : Hid (cntB x 12 = cntB x 10) := by
                show _ = _
                rw [cntB_succ, cntB_succ, Nat.testBit_lt_two_pow (show x < 2 ^ 11 by omega), Nat.testBit_lt_two_pow (show x < 2 ^ 10 by omega)]
                rfl
              have hb10 : cntB x 10 ≤ 10 := by
                unfold cntB
                have := List.length_filter_le (fun i => x.testBit i) (List.range 10)
                simpa using this
              obtain ⟨cx, hcx⟩ : ∃ cx, cntB x 10 = cx := ⟨_, rfl⟩
              have Hcx := Lib.hid hcx
              rw [hcx] at hb10 ⊢
              clear hcx
              go_wp2_with fail
              refine (far2_any _ nP a ((nP : Int) - 1)).mono ?_
              rintro e w9 ⟨r, rfl, hfar, hc9⟩
              rw [show (nP : Int) - 1 = ((nP - 1 : Nat) : Int) by omega] at hfar
              have hr := far_bits (by omega) ha hfar
              rw [Hxe.out, hb12.out, Hcx.out] at hr
              subst hr
              have hC9 := (hC3.non hCr).non hc9
              clear hfar hc9
              go_wp2_with fail
              go_ret
              exact ⟨by show Ending.returned (.bool (decide ((cx : Int) ≤ 2 * cx))) = _; rw [decide_eq_true (by omega)], hC9⟩
set_option maxRecDepth 100000 in
set_option maxHeartbeats 4000000 in
theorem graphAll_walk (w : World) (nodes : Int) (h0 : i64 nodes) (a : Int) (h1 : i64 a) :
    Calls Try.prog 5 #[.int .i64 nodes, .int .i64 a] w fun e w2 => e = .returned (.bool true) ∧ Chg Non w w2 := by
  by_cases hn : 1 ≤ nodes ∧ nodes ≤ 300 ∧ 0 ≤ a ∧ a < nodes
  · obtain ⟨k1, k2, k3, k4⟩ := hn
    obtain ⟨N, rfl⟩ : ∃ N : Nat, nodes = N := ⟨nodes.toNat, by omega⟩
    obtain ⟨aN, rfl⟩ : ∃ aN : Nat, a = aN := ⟨a.toNat, by omega⟩
    exact graphAll_core w N aN (by omega) (by omega) (by omega)
  · have hcase : nodes < 1 ∨ (1 ≤ nodes ∧ 300 < nodes) ∨ (1 ≤ nodes ∧ nodes ≤ 300 ∧ a < 0) ∨ (1 ≤ nodes ∧ nodes ≤ 300 ∧ 0 ≤ a ∧ nodes ≤ a) := by omega
    clear hn
    rcases hcase with k1 | ⟨k1, k2⟩ | ⟨k1, k2, k3⟩ | ⟨k1, k2, k3, k4⟩
    all_goals
      go_enter Try.func5, Try.ntmps5
      go_wp2_with fail
      refine (galive_any _).mono ?_
      rintro e w1 ⟨rfl, hc1⟩
      go_wp2_with fail
      go_ret
      exact ⟨rfl, hc1⟩
end Go.Proofs.Ytjbiglaohlmknaa
