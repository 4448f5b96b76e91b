/-
  gleanerlaw20.VictimAnew: the walk.
-/
import Derived.Test.YtiokijldnnkeiaaVictimAllWalk
namespace Go.Proofs.Ytiokijldnnkeiaa
open Go.ChangeShapes Go.WideShapes Go.ChangeAt Go.RowKit
set_option linter.unusedVariables false
set_option linter.unusedSimpArgs false

theorem PF.anew {p : Pk} {nodes self tries k : Int} (h : PF p nodes self tries k) : PF { p with nxt := 0 } nodes self tries 0 := ⟨h.n, h.s, h.t, h.l, rfl⟩
theorem linesG_not {nodes self z : Int} (h : z ∈ linesG nodes self) : z ≠ self := by
  unfold linesG at h
  split at h
  · rename_i hg
    obtain ⟨_, _, g3, _⟩ := isG_iff.1 hg
    obtain ⟨_, _, i, _, rfl⟩ := linesK_mem ((risen_spec _).2 z |>.1 h)
    intro e
    have h0 : xorI self 0 = self := by unfold xorI; simp; omega
    have := xorI_inj (a := self) (b := pw i) (c := 0) (by have := pw_pos i; omega) (Int.le_refl _) (by rw [e, h0])
    have := pw_pos i
    omega
  · cases h
/-- One call of a picker behind k calls that named someone: m is how many lines there are. -/
theorem PF.step {p : Pk} {nodes self tries : Int} {k : Nat} (h : PF p nodes self tries k) (hn : 2 ≤ nodes) (ht : 0 ≤ tries) (hk : (k : Int) < tries + (linesG nodes self).length) :
    ∃ y p2, p.next = (y, p2) ∧ 0 ≤ y ∧ y < nodes ∧ y ≠ self ∧ PF p2 nodes self tries (k + 1 : Nat) := by
  by_cases hlt : (k : Int) < tries
  · exact h.draw hlt hn
  · obtain ⟨j, hj⟩ : ∃ j : Nat, (k : Int) = tries + j := ⟨(k - tries).toNat, by omega⟩
    rw [hj] at h hk
    have hjl : j < (linesG nodes self).length := by omega
    have hy : (linesG nodes self)[j]? = some (linesG nodes self)[j] := List.getElem?_eq_getElem hjl
    obtain ⟨p2, h1, h2⟩ := h.line hy
    have hm := List.getElem_mem hjl
    obtain ⟨m1, m2⟩ := linesG_mem hm
    refine ⟨_, p2, h1, m1, m2, linesG_not hm, ?_⟩
    rw [show (((k + 1 : Nat)) : Int) = tries + ((j + 1 : Nat) : Int) by omega]
    exact h2
theorem PF.last {p : Pk} {nodes self tries : Int} {k : Nat} (h : PF p nodes self tries k) (hk : (k : Int) = tries + (linesG nodes self).length) : p.next = (-1, p) := by
  rw [hk] at h
  exact h.none

set_option maxRecDepth 100000 in
set_option maxHeartbeats 4000000 in
theorem victimAnew_core (w : World) (nodes self seed tries rounds : Int) (v1 : 2 ≤ nodes) (v2 : nodes ≤ 16) (v3 : 0 ≤ self) (v4 : self < nodes) (v5 : 0 ≤ tries) (v6 : tries ≤ 20) (v7 : 1 ≤ rounds) (v8 : rounds ≤ 10) :
    Calls Try.prog 5 #[.int .i64 nodes, .int .i64 self, .int .i64 seed, .int .i64 tries, .int .i64 rounds] w fun e w2 => e = .returned (.bool true) ∧ Chg Non w w2 := by
  have ho := okP_iff.2 ⟨v1, v2, v3, v4⟩
  have Hnew := Lib.hid (PF.new (seed := seed) ho v5)
  have hll : (linesG nodes self).length ≤ 12 := by
    have h := (newP_ok nodes self 0 0 (by omega)).l
    unfold newP at h
    rw [ho] at h
    exact h
  obtain ⟨t, rfl⟩ : ∃ t : Nat, tries = t := ⟨tries.toNat, by omega⟩
  obtain ⟨M, hM⟩ : ∃ M : Nat, M = t + (linesG nodes self).length := ⟨_, rfl⟩
  have HM := Lib.hid hM
  have hM2 : M ≤ 32 := by omega
  have hMt : t ≤ M := by omega
  clear ho hM hll
  go_enter Try.func5, Try.ntmps5
  go_wp2_with fail
  refine (alive_any _).mono ?_
  rintro e w1 ⟨rfl, hc1⟩
  go_wp2_with fail
  refine (new_any w1 nodes self seed t (by constructor <;> omega)).mono ?_
  rintro e w2 ⟨g, rfl, hp, hc2⟩
  have s1 := hc1.size
  have hg1 := hp.low
  have hC := hc1.non hc2
  obtain ⟨b1, hb1⟩ : ∃ b1, w1.heap.size = b1 := ⟨_, rfl⟩
  rw [hb1] at hp hg1 s1
  generalize newP nodes self seed t = p0 at hp Hnew
  clear hc1 hc2 hb1
  go_wp2_with fail
  go_loopw [13, 14] (fun n i wr => ∃ (k : Nat) (p : Pk) (n0 : Int), (k : Int) ≤ rounds ∧ i = .int .i64 k ∧ n = .int .i64 n0 ∧ Hid (n0 = -1 ∨ n0 = M) ∧ PkAt wr b1 g p ∧ Hid (PF p nodes self t 0) ∧ Chg Non w wr) (fun _ i _ => (rounds - intOf i).toNat)
  case atStart => exact ⟨0, p0, -1, by omega, rfl, rfl, .inl rfl, hp, Hnew, hC⟩
  case round =>
    clear hp Hnew hC
    obtain ⟨k, p, n0, hk, rfl, rfl, Hn0, hp, Hpf, hC⟩ := hrel
    by_cases hlt : (k : Int) < rounds
    · go_wp2_with fail
      go_loopw [15, 16] (fun a i wx => ∃ (j : Nat) (q : Pk), j ≤ M ∧ a = .int .i64 j ∧ i = .int .i64 j ∧ PkAt wx b1 g q ∧ Hid (PF q nodes self t j) ∧ Chg Non w wx) (fun _ i _ => 50 - (intOf i).toNat)
      case atStart => exact ⟨0, p, Nat.zero_le _, rfl, rfl, hp, Hpf, hC⟩
      case round =>
        clear hp Hpf hC
        obtain ⟨j, q, hj, rfl, rfl, hq, Hqf, hC⟩ := hrel
        have hqn := Hqf.out.x
        by_cases hjM : j < M
        · obtain ⟨y, q2, hy, y1, y2, y3, hqf2⟩ := Hqf.out.step v1 v5 (by have := HM.out; omega)
          have Hy := Lib.hid hy
          have Hqf2 := Lib.hid hqf2
          have hq2n := hqf2.x
          have t2 : decide (nodes ≤ y) = false := decide_eq_false (by omega)
          have t3 : (y == self) = false := beq_eq_false_iff_ne.2 y3
          have t4 : (((j + 1 : Nat) : Int) != ((j + 1 : Nat) : Int)) = false := bne_self_eq_false _
          clear hy hqf2
          go_wp2_with fail
          refine (next_any _ b1 g q hq (by omega)).mono ?_
          rintro e w5 ⟨rfl, hq5, hc5⟩
          have hC5 := hC.trans2 hc5 fun b e => .inr (by omega)
          rw [Hy.out] at hq5 ⊢
          clear hq hC hc5 Hqf Hy
          go_wp2_with fail
          refine (asked_any _ b1 g q2 hq5).mono ?_
          rintro e w6 ⟨rfl, rfl⟩
          rw [hq2n]
          go_wp2_with fail
          go_roundw
          case rel => exact ⟨j + 1, q2, by omega, by go_num, by go_num, hq5, Hqf2, hC5⟩
          case measure => simp [intOf]; omega
        · obtain rfl : j = M := by omega
          have Hno : Hid (q.next = (-1, q)) := Hqf.out.last (by have := HM.out; omega)
          have Hqf2 := Lib.hid Hqf.out.anew
          have hM3 : decide ((j : Int) < t) = false := decide_eq_false (by omega)
          go_wp2_with fail
          refine (next_any _ b1 g q hq (by omega)).mono ?_
          rintro e w5 ⟨rfl, hq5, hc5⟩
          have hC5 := hC.trans2 hc5 fun b e => .inr (by omega)
          rw [Hno.out] at hq5 ⊢
          clear hq hC hc5 Hqf
          have hcase : (n0 = -1 ∧ decide (0 ≤ n0) = false) ∨ (n0 = j ∧ decide (0 ≤ n0) = true) := by
            rcases Hn0.out with h | h
            · exact .inl ⟨h, decide_eq_false (by omega)⟩
            · exact .inr ⟨h, decide_eq_true (by omega)⟩
          have hjj : ((j : Int) != j) = false := bne_self_eq_false _
          rcases hcase with ⟨rfl, hd⟩ | ⟨rfl, hd⟩
          all_goals
            go_wp2_with fail
            refine (next_any _ b1 g q hq5 (by omega)).mono ?_
            rintro e w6 ⟨rfl, hq6, hc6⟩
            have hC6 := hC5.trans2 hc6 fun b e => .inr (by omega)
            rw [Hno.out] at hq6 ⊢
            clear hq5 hC5 hc6
            go_wp2_with fail
            refine (found_any _ b1 g q hq6).mono ?_
            rintro e w7 ⟨rfl, hq7, hc7⟩
            have hC7 := hC6.trans2 hc7 fun b e => .inr (by omega)
            clear hq6 hC6 hc7
            go_wp2_with fail
            refine (asked_any _ b1 g _ hq7).mono ?_
            rintro e w8 ⟨rfl, rfl⟩
            go_wp2_with fail
            go_roundw
            case rel => exact ⟨k + 1, _, j, by omega, by go_num, rfl, .inr rfl, hq7, Hqf2, hC7⟩
            case measure => simp [intOf]; omega
    · go_wp2_with fail
      go_ret
      exact ⟨rfl, hC⟩
set_option maxRecDepth 100000 in
set_option maxHeartbeats 4000000 in
theorem victimAnew_walk (w : World) (nodes : Int) (h0 : i64 nodes) (self : Int) (h1 : i64 self) (seed : Int) (h2 : i64 seed) (tries : Int) (h3 : i64 tries) (rounds : Int) (h4 : i64 rounds) :
    Calls Try.prog 5 #[.int .i64 nodes, .int .i64 self, .int .i64 seed, .int .i64 tries, .int .i64 rounds] w fun e w2 => e = .returned (.bool true) ∧ Chg Non w w2 := by
  by_cases hn : 2 ≤ nodes ∧ nodes ≤ 16 ∧ 0 ≤ self ∧ self < nodes ∧ 0 ≤ tries ∧ tries ≤ 20 ∧ 1 ≤ rounds ∧ rounds ≤ 10
  · obtain ⟨k1, k2, k3, k4, k5, k6, k7, k8⟩ := hn
    exact victimAnew_core w nodes self seed tries rounds k1 k2 k3 k4 k5 k6 k7 k8
  · have hcase : nodes < 2 ∨ (2 ≤ nodes ∧ 16 < nodes) ∨ (2 ≤ nodes ∧ nodes ≤ 16 ∧ self < 0) ∨ (2 ≤ nodes ∧ nodes ≤ 16 ∧ 0 ≤ self ∧ nodes ≤ self) ∨ (2 ≤ nodes ∧ nodes ≤ 16 ∧ 0 ≤ self ∧ self < nodes ∧ tries < 0) ∨ (2 ≤ nodes ∧ nodes ≤ 16 ∧ 0 ≤ self ∧ self < nodes ∧ 0 ≤ tries ∧ 20 < tries) ∨ (2 ≤ nodes ∧ nodes ≤ 16 ∧ 0 ≤ self ∧ self < nodes ∧ 0 ≤ tries ∧ tries ≤ 20 ∧ rounds < 1) ∨ (2 ≤ nodes ∧ nodes ≤ 16 ∧ 0 ≤ self ∧ self < nodes ∧ 0 ≤ tries ∧ tries ≤ 20 ∧ 1 ≤ rounds ∧ 10 < rounds) := by omega
    clear hn
    rcases hcase with k1 | ⟨k1, k2⟩ | ⟨k1, k2, k3⟩ | ⟨k1, k2, k3, k4⟩ | ⟨k1, k2, k3, k4, k5⟩ | ⟨k1, k2, k3, k4, k5, k6⟩ | ⟨k1, k2, k3, k4, k5, k6, k7⟩ | ⟨k1, k2, k3, k4, k5, k6, k7, k8⟩
    all_goals
      go_enter Try.func5, Try.ntmps5
      go_wp2_with fail
      refine (alive_any _).mono ?_
      rintro e w1 ⟨rfl, hc1⟩
      go_wp2_with fail
      go_ret
      exact ⟨rfl, hc1⟩
end Go.Proofs.Ytiokijldnnkeiaa
