/-
  gleanerlaw17.BeatOften: the walk.
-/
import Derived.Test.YtfpkhpdbfkclgaaBeatLaw
namespace Go.Proofs.Ytfpkhpdbfkclgaa
open Go.ChangeShapes Go.WideShapes Go.ChangeAt Go.RowKit
set_option linter.unusedVariables false
set_option linter.unusedSimpArgs false

/-- One node that was heard of last at s. -/
def oneW (s : Int) : List Wt := [⟨3, 1, s, 1, true⟩]
theorem one_new : newW [3] = oneW 0 := rfl
theorem one_hear (s t : Int) : hearW (oneW s) 3 t = oneW (later s t) := rfl
theorem one_heard (s t : Int) (h : mayB t = true) : heardB (oneW s) 3 1 t = true := by
  show (decide ((1 : Int) = 1) && (mayB 1 && mayB t)) = true
  rw [h]
  rfl
theorem one_ok {s : Int} (h : mayB s = true) : OkW (oneW s) := ⟨by simp [oneW], fun x hx => by
  simp [oneW] at hx
  subst hx
  exact ⟨rfl, h, rfl, by constructor <;> simp⟩⟩
theorem one_late {s wt now : Int} (h : mayB now = true) : (lateN (oneW s) wt now).length = if s < now - wt then 1 else 0 := by
  unfold lateN
  rw [h, if_pos rfl]
  unfold lateW oneW
  by_cases hs : s < now - wt
  · simp [hs, risen, riseI]
  · simp [hs, risen]

set_option maxRecDepth 100000 in
set_option maxHeartbeats 4000000 in
theorem beatOften_core (w : World) (wt ev : Int) (n : Nat) (h1 : 1 ≤ wt) (h2 : wt ≤ 100) (h3 : 1 ≤ ev) (h4 : ev ≤ 200) (h5 : 1 ≤ n) (h6 : n ≤ 100) :
    Calls Try.prog 3 #[.int .i64 wt, .int .i64 ev, .int .i64 (n : Int)] w fun e w2 => e = .returned (.bool true) ∧ Chg Non w w2 := by
  have hwt : (if wt ≤ 1 then (1 : Int) else wt) = wt := by split <;> omega
  have Hwt := Lib.hid hwt
  clear hwt
  go_enter Try.func3, Try.ntmps3
  go_wp2_with fail
  refine (balive_any _).mono ?_
  rintro e w1 ⟨rfl, hc1⟩
  have hb0 : Rds (w1.alloc (.cells #[.int .i64 3] 3)) 1 (some ⟨w1.heap.size, 0, none⟩) 1 (iv [3]) := Rds.block (Blk.new _ _ _) rfl
  have hl : ∀ x ∈ ([3] : List Int), i64 x := by intro x hx; simp at hx; subst hx; exact ⟨by omega, by omega⟩
  have hnew := btNew_any _ wt _ 1 1 [3] hb0 (by omega) hl
  have hC1 := hc1.alloc (.cells #[.int .i64 3] 3)
  have hs1 := hc1.size
  clear hb0 hl hc1
  go_wp2_with fail
  refine hnew.mono ?_
  rintro e w2 ⟨g, rfl, hB, hc2⟩
  rw [Hwt.out, one_new] at hB
  have hC2 := hC1.non hc2
  obtain ⟨F, hF⟩ : ∃ F : Nat → Prop, (fun b => (w1.alloc (.cells #[.int .i64 3] 3)).heap.size ≤ b ∧ b < w2.heap.size) = F := ⟨_, rfl⟩
  have HF : Hid (∀ b, F b → w.heap.size ≤ b) := fun b h => by
    rw [← hF] at h
    have := h.1
    simp at this
    omega
  rw [hF] at hB
  clear hF hc2 hnew hC1 hs1
  go_wp2_with fail
  go_loopw [9] (fun i wr => ∃ (k : Nat) (s : Int), k ≤ n ∧ i = .int .i64 k ∧ 0 ≤ s ∧ s ≤ 20000 ∧ Hid (s = if k = 0 then 0 else (k : Int) * ev - ev) ∧ Bt wr F g wt (oneW s) 1 ∧ Chg Non w wr) (fun i _ => n - (intOf i).toNat)
  case atStart => exact ⟨0, 0, Nat.zero_le _, rfl, Int.le_refl _, by omega, rfl, hB, hC2⟩
  case round =>
    clear hB hC2
    obtain ⟨k, s, hk, rfl, hs0, hs1, Hs, hB, hC⟩ := hrel
    by_cases hlt : k < n
    · obtain ⟨q, hq⟩ : ∃ q, (k : Int) * ev = q := ⟨_, rfl⟩
      have q0 : 0 ≤ q := by rw [← hq]; exact Int.mul_nonneg (by omega) (by omega)
      have q1 : q ≤ 20000 := by
        rw [← hq]
        have : (k : Int) * ev ≤ 100 * 200 := Int.mul_le_mul (by omega) h4 (by omega) (by omega)
        omega
      have hmq : mayB q = true := mayB_iff.2 (by omega)
      have Hsq : Hid (s = if k = 0 then 0 else q - ev) := by show _ = _; rw [← hq]; exact Hs.out
      have hq2 : k = 0 → q = 0 := fun e => by rw [← hq, e]; simp
      have hlate := btLate_any wr F g wt _ 1 q hB (one_ok (mayB_iff.2 (by omega))) (by omega) (by show 1 ≤ _; omega) h1 (by omega)
      have hheard := fun wx (hx : Chg Non wr wx) => btHeard_any wx F g wt _ 1 3 1 q (hB.non hx) (by omega) ⟨by omega, by omega⟩
      have Hq : Hid (q = ((k + 1 : Nat) : Int) * ev - ev) := by
        show _ = _
        rw [← hq]; push_cast; rw [Int.add_mul]; omega
      have Hheard := Lib.hid hheard
      have HlN : Hid ((lateN (oneW s) wt q).length = if s < q - wt then 1 else 0) := one_late hmq
      have Hhe := Lib.hid (one_heard s q hmq)
      have Hhq : Hid (later s q = q) := by
        show _ = _
        unfold later
        have := Hsq.out
        by_cases e : k = 0
        · have := hq2 e; rw [if_pos e] at *; split <;> omega
        · rw [if_neg e] at *; split <;> omega
      have hs9 := Hsq.out
      clear hheard hmq hB Hs
      by_cases hz : k = 0
      · have hqz := hq2 hz
        rw [if_pos hz] at hs9
        have d1 : decide (0 < k) = false := decide_eq_false (by omega)
        have d2 : decide ((0 : Int) < (k : Int)) = false := decide_eq_false (by omega)
        have hlen : Hid ((lateN (oneW s) wt q).length = 0) := by show _ = _; rw [HlN.out, if_neg (by omega)]
        clear hq2 hs9 hqz hz
        go_wp2_with fail
        refine hlate.mono ?_
        rintro e w3 ⟨vX, nX, rfl, hX, hc3⟩
        obtain ⟨AX, cX, rfl, _, _, _, _⟩ := hX.open_
        obtain rfl : nX = 0 := by rw [hX.lenN, hlen.out]
        have hC3 := hC.non hc3
        clear hX hC
        go_wp2_with fail
        refine (Hheard.out w3 hc3).mono ?_
        rintro e w4 ⟨rfl, hB4, hc4⟩
        rw [Hhe.out, if_pos rfl, one_hear, Hhq.out] at hB4
        have hC4 := hC3.newF hc4 HF.out
        clear hC3 hc4 hlate
        go_wp2_with fail
        go_roundw
        case rel => exact ⟨k + 1, q, by omega, by go_num, q0, q1, by show q = if k + 1 = 0 then 0 else _; rw [if_neg (by omega)]; exact Hq.out, hB4, hC4⟩
        case measure => simp [intOf]; omega
      · rw [if_neg hz] at hs9
        have d1 : decide (0 < k) = true := decide_eq_true (by omega)
        have d2 : decide ((0 : Int) < (k : Int)) = true := decide_eq_true (by omega)
        have k1 : 0 < k := by omega
        by_cases hwe : wt < ev
        · have hlen : Hid ((lateN (oneW s) wt q).length = 1) := by show _ = _; rw [HlN.out, if_pos (by omega)]
          clear hq2 hs9 hz
          go_wp2_with fail
          refine hlate.mono ?_
          rintro e w3 ⟨vX, nX, rfl, hX, hc3⟩
          obtain ⟨AX, cX, rfl, _, _, _, _⟩ := hX.open_
          obtain rfl : nX = 1 := by rw [hX.lenN, hlen.out]
          have hC3 := hC.non hc3
          clear hX hC
          go_wp2_with fail
          refine (Hheard.out w3 hc3).mono ?_
          rintro e w4 ⟨rfl, hB4, hc4⟩
          rw [Hhe.out, if_pos rfl, one_hear, Hhq.out] at hB4
          have hC4 := hC3.newF hc4 HF.out
          clear hC3 hc4 hlate
          go_wp2_with fail
          go_roundw
          case rel => exact ⟨k + 1, q, by omega, by go_num, q0, q1, by show q = if k + 1 = 0 then 0 else _; rw [if_neg (by omega)]; exact Hq.out, hB4, hC4⟩
          case measure => simp [intOf]; omega
        · have hlen : Hid ((lateN (oneW s) wt q).length = 0) := by show _ = _; rw [HlN.out, if_neg (by omega)]
          have d3 : decide (wt < ev) = false := decide_eq_false hwe
          clear hq2 hs9 hz
          go_wp2_with fail
          refine hlate.mono ?_
          rintro e w3 ⟨vX, nX, rfl, hX, hc3⟩
          obtain ⟨AX, cX, rfl, _, _, _, _⟩ := hX.open_
          obtain rfl : nX = 0 := by rw [hX.lenN, hlen.out]
          have hC3 := hC.non hc3
          clear hX hC
          go_wp2_with fail
          refine (Hheard.out w3 hc3).mono ?_
          rintro e w4 ⟨rfl, hB4, hc4⟩
          rw [Hhe.out, if_pos rfl, one_hear, Hhq.out] at hB4
          have hC4 := hC3.newF hc4 HF.out
          clear hC3 hc4 hlate
          go_wp2_with fail
          go_roundw
          case rel => exact ⟨k + 1, q, by omega, by go_num, q0, q1, by show q = if k + 1 = 0 then 0 else _; rw [if_neg (by omega)]; exact Hq.out, hB4, hC4⟩
          case measure => simp [intOf]; omega
    · obtain rfl : k = n := by omega
      have hsq : ((k : Int) - 1) * ev = s := by
        have := Hs.out
        rw [if_neg (by omega)] at this
        rw [Int.sub_mul, Int.one_mul]; omega
      have hl1 := btLate_any wr F g wt _ 1 (s + wt) hB (one_ok (mayB_iff.2 (by omega))) (by omega) (by show 1 ≤ _; omega) h1 (by omega)
      have hl2 := fun wx (hx : Chg Non wr wx) => btLate_any wx F g wt _ 1 (s + wt + 1) (hB.non hx) (one_ok (mayB_iff.2 (by omega))) (by omega) (by show 1 ≤ _; omega) h1 (by omega)
      have Hl2 := Lib.hid hl2
      have n1 : Hid ((lateN (oneW s) wt (s + wt)).length = 0) := by show _ = _; rw [one_late (mayB_iff.2 (by omega)), if_neg (by omega)]
      have n2 : Hid ((lateN (oneW s) wt (s + wt + 1)).length = 1) := by show _ = _; rw [one_late (mayB_iff.2 (by omega)), if_pos (by omega)]
      clear hl2 hB Hs
      go_wp2_with fail
      refine hl1.mono ?_
      rintro e w3 ⟨vX, nX, rfl, hX, hc3⟩
      obtain ⟨AX, cX, rfl, _, _, _, _⟩ := hX.open_
      obtain rfl : nX = 0 := by rw [hX.lenN, n1.out]
      have hC3 := hC.non hc3
      clear hX hC hl1
      go_wp2_with fail
      refine (Hl2.out w3 hc3).mono ?_
      rintro e w4 ⟨vY, nY, rfl, hY, hc4⟩
      obtain ⟨AY, cY, rfl, _, _, _, _⟩ := hY.open_
      obtain rfl : nY = 1 := by rw [hY.lenN, n2.out]
      have hC4 := hC3.non hc4
      clear hY hC3 hc4
      go_wp2_with fail
      go_ret
      exact ⟨rfl, hC4⟩
set_option maxRecDepth 100000 in
set_option maxHeartbeats 4000000 in
theorem beatOften_walk (w : World) (wt : Int) (h0 : i64 wt) (ev : Int) (h1 : i64 ev) (n : Int) (h2 : i64 n) :
    Calls Try.prog 3 #[.int .i64 wt, .int .i64 ev, .int .i64 n] w fun e w2 => e = .returned (.bool true) ∧ Chg Non w w2 := by
  by_cases hn : 1 ≤ wt ∧ wt ≤ 100 ∧ 1 ≤ ev ∧ ev ≤ 200 ∧ 1 ≤ n ∧ n ≤ 100
  · obtain ⟨k1, k2, k3, k4, k5, k6⟩ := hn
    obtain ⟨N, rfl⟩ : ∃ N : Nat, n = N := ⟨n.toNat, by omega⟩
    exact beatOften_core w wt ev N k1 k2 k3 k4 (by omega) (by omega)
  · have hcase : wt < 1 ∨ (1 ≤ wt ∧ 100 < wt) ∨ (1 ≤ wt ∧ wt ≤ 100 ∧ ev < 1) ∨ (1 ≤ wt ∧ wt ≤ 100 ∧ 1 ≤ ev ∧ 200 < ev) ∨ (1 ≤ wt ∧ wt ≤ 100 ∧ 1 ≤ ev ∧ ev ≤ 200 ∧ n < 1) ∨ (1 ≤ wt ∧ wt ≤ 100 ∧ 1 ≤ ev ∧ ev ≤ 200 ∧ 1 ≤ n ∧ 100 < n) := by omega
    clear hn
    rcases hcase with k1 | ⟨k1, k2⟩ | ⟨k1, k2, k3⟩ | ⟨k1, k2, k3, k4⟩ | ⟨k1, k2, k3, k4, k5⟩ | ⟨k1, k2, k3, k4, k5, k6⟩
    all_goals
      go_enter Try.func3, Try.ntmps3
      go_wp2_with fail
      refine (balive_any _).mono ?_
      rintro e w1 ⟨rfl, hc1⟩
      go_wp2_with fail
      go_ret
      exact ⟨rfl, hc1⟩
end Go.Proofs.Ytfpkhpdbfkclgaa
