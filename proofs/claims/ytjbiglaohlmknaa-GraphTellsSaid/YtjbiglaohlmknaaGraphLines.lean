/-
  graph.is, graph.Lines, gleanerref14.Lines.
-/
import Derived.Test.YtjbiglaohlmknaaGraphPlain
import Derived.Test.YtjbiglaohlmknaaRiseWalk
namespace Go.Proofs.Ytjbiglaohlmknaa
open Go.RowKit
set_option linter.unusedVariables false
set_option linter.unusedSimpArgs false

theorem is_any (nodes n : Int) (w : World) : Calls Try.prog 15 #[.int .i64 nodes, .int .i64 n] w fun e w2 => e = .returned (.bool (isG nodes n)) ∧ w = w2 := by
  by_cases h1 : nodes < 1
  · have H := Lib.hid (show isG nodes n = false by unfold isG; rw [decide_eq_false (show ¬ 1 ≤ nodes by omega)]; simp)
    go_enter Try.func15, Try.ntmps15
    go_wp2_with fail
    go_ret
    exact ⟨by rw [H.out]; rfl, rfl⟩
  · by_cases h2 : 4096 < nodes
    · have H := Lib.hid (show isG nodes n = false by unfold isG; rw [decide_eq_false (show ¬ nodes ≤ 4096 by omega)]; simp)
      go_enter Try.func15, Try.ntmps15
      go_wp2_with fail
      go_ret
      exact ⟨by rw [H.out]; rfl, rfl⟩
    · by_cases h3 : n < 0
      · have H := Lib.hid (show isG nodes n = false by unfold isG; rw [decide_eq_false (show ¬ 0 ≤ n by omega)]; simp)
        go_enter Try.func15, Try.ntmps15
        go_wp2_with fail
        go_ret
        exact ⟨by rw [H.out]; rfl, rfl⟩
      · have H := Lib.hid (show isG nodes n = decide (n < nodes) by unfold isG; rw [decide_eq_true (show 1 ≤ nodes by omega), decide_eq_true (show nodes ≤ 4096 by omega), decide_eq_true (show 0 ≤ n by omega)]; rfl)
        go_enter Try.func15, Try.ntmps15
        go_wp2_with fail
        go_ret
        exact ⟨by rw [H.out]; rfl, rfl⟩

/-- What both answer. -/
def LinesPost (w : World) (nodes node : Int) (e : Ending) (w2 : World) : Prop :=
  ∃ v n, e = .returned v ∧ OwnR rkN w2 w.heap.size v n (iv (linesG nodes node)) ∧ Chg Non w w2

set_option maxRecDepth 100000 in
set_option maxHeartbeats 2000000 in
theorem lines_any (nodes node : Int) (w : World) : Calls Try.prog 10 #[.int .i64 nodes, .int .i64 node] w (LinesPost w nodes node) := by
  go_enter Try.func10, Try.ntmps10
  go_wp2_with fail
  refine (is_any nodes node w).mono ?_
  rintro e w9 ⟨rfl, rfl⟩
  cases hi : isG nodes node with
  | false =>
    have H := Lib.hid (show linesG nodes node = [] by unfold linesG; rw [hi]; rfl)
    clear hi
    go_wp2_with fail
    go_ret
    exact ⟨_, 0, rfl, by rw [H.out]; exact OwnR.nil _ _ _, Chg.refl _ _⟩
  | true =>
    have Hi := Lib.hid hi
    obtain ⟨i1, i2, i3, i4⟩ := isG_iff.1 hi
    clear hi
    go_wp2_with fail
    go_loopw [5, 6] (fun v b wr => ∃ (k : Nat) (n : Nat), k ≤ 12 ∧ b = .int .i64 (pw k) ∧ Hid (∀ i, i < k → pw i < nodes) ∧ OwnR rkN wr w.heap.size v n (iv (linesK nodes node k)) ∧ Chg Non w wr) (fun _ b _ => (nodes - intOf b).toNat)
    case atStart => exact ⟨0, 0, by omega, rfl, fun i h => by omega, OwnR.nil _ _ _, Chg.refl _ _⟩
    case round =>
      obtain ⟨k, n, hk, rfl, hlt, hown, hC⟩ := hrel
      have hp := pw_pos k
      have hps := pw_succ k
      have hnl : n ≤ k := by have h1 := hown.len; have h2 := linesK_len nodes node k; rw [iv_len] at h1; have e : (rkN).size = 1 := rfl; rw [e] at h1; omega
      obtain ⟨b, hb⟩ : ∃ b, pw k = b := ⟨_, rfl⟩
      rw [hb] at hp hps
      by_cases hbn : b < nodes
      · have hk2 : k + 1 ≤ 12 := by
          have h1 : pw k < pw 12 := by rw [hb, pw12]; omega
          have := pw_lt h1; omega
        have hlt2 : Hid (∀ i, i < k + 1 → pw i < nodes) := by
          intro i hi2
          rcases Nat.lt_or_ge i k with h | h
          · exact hlt.out i h
          · obtain rfl : i = k := by omega
            rw [hb]; exact hbn
        have hx := i64_xor node b (by omega) (by omega) (by omega) (by omega)
        have hst := linesK_succ nodes node k
        rw [hb] at hst
        have hx1 := xorI_ge node b
        have hx2 := xorI_lt (a := node) (b := b) (by omega) (by omega)
        obtain ⟨x, hxe⟩ : ∃ x, xorI node b = x := ⟨_, rfl⟩
        rw [hxe] at hx hst hx1 hx2
        have Hst := Lib.hid hst
        have Hps := Lib.hid hps
        have Hb := Lib.hid hb
        clear hst hps hb hxe hlt
        rw [Hb.out]
        by_cases hxn : x < nodes
        · go_wp2_with (at_builtin; refine appR1 (K := rkN) rfl (.tmp 23) (.tmp 25) rfl hown rfl (cs := #[.int .i64 x]) rfl rfl (iv_one' [x]) ?_ ?_ ?_; (next => omega); (next => exact hC.size); intro v6 w6 h6 hc6 _; have hC6 := OwnR.chgApp hown hC (Nat.le_refl _) hc6)
          go_roundw
          case rel => exact ⟨k + 1, n + 1, hk2, by rw [Hps.out] <;> first | rfl | go_num, hlt2, by rw [Hst.out, if_pos hxn, iv_app]; exact h6, hC6⟩
          case measure => simp [intOf]; omega
        · go_wp2_with fail
          go_roundw
          case rel => exact ⟨k + 1, n, hk2, by rw [Hps.out] <;> first | rfl | go_num, hlt2, by rw [Hst.out, if_neg hxn, List.append_nil]; exact hown, hC⟩
          case measure => simp [intOf]; omega
      · have hbits := bitsN_at hk hlt.out (by rw [hb]; omega)
        have hnd := linesK_nodup nodes node k
        have hfin := Lib.hid (show linesG nodes node = (linesK nodes node k).mergeSort leI by unfold linesG; rw [Hi.out, if_pos rfl, hbits, sort_eq hnd])
        have Hb := Lib.hid hb
        clear hbits hnd hps hb hlt
        rw [Hb.out]
        go_wp2_with fail
        refine (sort_own wr w.heap.size _ n _ hown (by omega)).mono ?_
        rintro e w3 ⟨rfl, hown3, hc3⟩
        have hC3 := OwnR.chgApp hown hC (Nat.le_refl _) hc3
        clear hown hc3
        go_wp2_with fail
        go_ret
        exact ⟨_, n, rfl, by rw [hfin.out]; exact hown3, hC3⟩
theorem risen_len {l : List Int} (h : l.Nodup) : (risen l).length = l.length := by rw [← sort_eq h, List.length_mergeSort]

set_option maxRecDepth 100000 in
set_option maxHeartbeats 2000000 in
theorem refLines_any (nodes node : Int) (w : World) : Calls Try.prog 11 #[.int .i64 nodes, .int .i64 node] w (LinesPost w nodes node) := by
  by_cases h1 : nodes < 1
  case pos =>
    have H := Lib.hid (show linesG nodes node = [] by unfold linesG; rw [show isG nodes node = false by unfold isG; rw [decide_eq_false (show ¬ 1 ≤ nodes by omega)]; simp]; rfl)
    go_enter Try.func11, Try.ntmps11
    go_wp2_with fail
    go_ret
    exact ⟨_, 0, rfl, by rw [H.out]; exact OwnR.nil _ _ _, Chg.refl _ _⟩
  by_cases h2 : 4096 < nodes
  case pos =>
    have H := Lib.hid (show linesG nodes node = [] by unfold linesG; rw [show isG nodes node = false by unfold isG; rw [decide_eq_false (show ¬ nodes ≤ 4096 by omega)]; simp]; rfl)
    go_enter Try.func11, Try.ntmps11
    go_wp2_with fail
    go_ret
    exact ⟨_, 0, rfl, by rw [H.out]; exact OwnR.nil _ _ _, Chg.refl _ _⟩
  by_cases h3 : node < 0
  case pos =>
    have H := Lib.hid (show linesG nodes node = [] by unfold linesG; rw [show isG nodes node = false by unfold isG; rw [decide_eq_false (show ¬ 0 ≤ node by omega)]; simp]; rfl)
    go_enter Try.func11, Try.ntmps11
    go_wp2_with fail
    go_ret
    exact ⟨_, 0, rfl, by rw [H.out]; exact OwnR.nil _ _ _, Chg.refl _ _⟩
  by_cases h4 : nodes ≤ node
  case pos =>
    have H := Lib.hid (show linesG nodes node = [] by unfold linesG; rw [show isG nodes node = false by unfold isG; rw [decide_eq_false (show ¬ node < nodes by omega)]; simp]; rfl)
    go_enter Try.func11, Try.ntmps11
    go_wp2_with fail
    go_ret
    exact ⟨_, 0, rfl, by rw [H.out]; exact OwnR.nil _ _ _, Chg.refl _ _⟩
  · have Hi : Hid (isG nodes node = true) := isG_iff.2 (by omega)
    have i1 : 1 ≤ nodes := by omega
    have i2 : nodes ≤ 4096 := by omega
    have i3 : 0 ≤ node := by omega
    have i4 : node < nodes := by omega
    clear h1 h2 h3 h4
    go_enter Try.func11, Try.ntmps11
    go_wp2_with fail
    go_loopw [5, 6] (fun v b wr => ∃ (k : Nat) (n : Nat), k ≤ 12 ∧ b = .int .i64 (pw k) ∧ Hid (∀ i, i < k → pw i < nodes) ∧ OwnR rkN wr w.heap.size v n (iv (risen (linesK nodes node k))) ∧ Chg Non w wr) (fun _ b _ => (nodes - intOf b).toNat)
    case atStart => exact ⟨0, 0, by omega, rfl, fun i h => by omega, OwnR.nil _ _ _, Chg.refl _ _⟩
    case round =>
      obtain ⟨k, n, hk, rfl, hlt, hown, hC⟩ := hrel
      have hp := pw_pos k
      have hps := pw_succ k
      have hnl : n ≤ k := by have h1 := hown.len; have h2 := linesK_len nodes node k; rw [iv_len, risen_len (linesK_nodup nodes node k)] at h1; have e : (rkN).size = 1 := rfl; rw [e] at h1; omega
      obtain ⟨b, hb⟩ : ∃ b, pw k = b := ⟨_, rfl⟩
      rw [hb] at hp hps
      by_cases hbn : b < nodes
      · have hk2 : k + 1 ≤ 12 := by
          have h1 : pw k < pw 12 := by rw [hb, pw12]; omega
          have := pw_lt h1; omega
        have hlt2 : Hid (∀ i, i < k + 1 → pw i < nodes) := by
          intro i hi2
          rcases Nat.lt_or_ge i k with h | h
          · exact hlt.out i h
          · obtain rfl : i = k := by omega
            rw [hb]; exact hbn
        have hx := i64_xor node b (by omega) (by omega) (by omega) (by omega)
        have hst := linesK_succ nodes node k
        rw [hb] at hst
        have hx1 := xorI_ge node b
        have hx2 := xorI_lt (a := node) (b := b) (by omega) (by omega)
        obtain ⟨x, hxe⟩ : ∃ x, xorI node b = x := ⟨_, rfl⟩
        rw [hxe] at hx hst hx1 hx2
        have Hst := Lib.hid hst
        have Hps := Lib.hid hps
        have Hb := Lib.hid hb
        clear hst hps hb hxe hlt
        rw [Hb.out]
        by_cases hxn : x < nodes
        · go_wp2_with fail
          refine (rise_any wr w.heap.size _ n _ x hown hC.size (by omega)).mono ?_
          rintro e w6 ⟨v6, n6, rfl, h6, hc6⟩
          have hC6 := hC.non hc6
          clear hown hc6
          go_wp2_with fail
          go_roundw
          case rel => exact ⟨k + 1, n6, hk2, by rw [Hps.out] <;> first | rfl | go_num, hlt2, by rw [Hst.out, if_pos hxn, risen_snoc]; exact h6, hC6⟩
          case measure => simp [intOf]; omega
        · go_wp2_with fail
          go_roundw
          case rel => exact ⟨k + 1, n, hk2, by rw [Hps.out] <;> first | rfl | go_num, hlt2, by rw [Hst.out, if_neg hxn, List.append_nil]; exact hown, hC⟩
          case measure => simp [intOf]; omega
      · have hbits := bitsN_at hk hlt.out (by rw [hb]; omega)
        have hfin := Lib.hid (show linesG nodes node = risen (linesK nodes node k) by unfold linesG; rw [Hi.out, if_pos rfl, hbits])
        have Hb := Lib.hid hb
        clear hbits hps hb hlt
        rw [Hb.out]
        go_wp2_with fail
        go_ret
        exact ⟨_, n, rfl, by rw [hfin.out]; exact hown, hC⟩
end Go.Proofs.Ytjbiglaohlmknaa
