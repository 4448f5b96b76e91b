/-
  gleanerlaw1.PackStays: the walk.
-/
import Derived.Test.YtbjpnnpbhocffaaAlive
import Derived.Test.YtbjpnnpbhocffaaReader
import Derived.Test.YtbjpnnpbhocffaaGet
namespace Go.Proofs.Ytbjpnnpbhocffaa
open Go.RowKit
set_option linter.unusedVariables false

set_option maxRecDepth 100000 in
set_option maxHeartbeats 1000000 in
theorem packStays_core (w : World) (A : Option Addr) (n c : Nat) (b : List UInt8) (hr : Rds w 1 A n (bv b)) (A2 : Option Addr) (m c2 : Nat) (l : List Bool) (hr2 : Rds w 1 A2 m (l.map Value.bool)) (hn1 : n ≤ 1000) (hm1 : m ≤ 200) :
    Calls Try.prog 7 #[.slice A n c, .slice A2 m c2] w fun e w2 => e = .returned (.bool true) ∧ Chg Non w w2 := by
  have hb1 : b.length ≤ 1000 := by have := hr.lenMap; omega
  have hr2k := Lib.hid hr2
  go_enter Try.func7, Try.ntmps7
  go_wp2_with fail
  refine (alive_any _).mono ?_
  rintro e w1 ⟨rfl, hc1⟩
  have hr1 := hr.non hc1
  clear hr hr2
  go_wp2_with fail
  refine (new_any _ _ _ _ _ hr1 (by omega)).mono ?_
  rintro e w7 ⟨g, rfl, hg, hcur, hc7⟩
  have hgw : w.heap.size ≤ g := Nat.le_trans hc1.size hg
  have hC := hc1.non hc7
  clear hr1 hc1 hc7 hg
  go_wp2_with fail
  go_loopw [7, 8] (fun bd i wr => ∃ (k : Nat) (R : List UInt8) (bad : Bool), k ≤ m ∧ bd = .bool bad ∧ i = .int .i64 k ∧ Cur wr g R bad ∧ Hid (Fine R bad) ∧ R.length ≤ 1000 ∧ Chg Non w wr) (fun _ i _ => m - (intOf i).toNat)
  case atStart => exact ⟨0, b, false, Nat.zero_le _, rfl, rfl, hcur, (fun h => by cases h), hb1, hC⟩
  case round =>
    clear hcur hC
    obtain ⟨k, R, bad, hk, rfl, rfl, hcur, hfine, hRl, hC⟩ := hrel
    by_cases hlt : k < m
    · obtain ⟨ad, x, rfl, hx, hcell⟩ := hr2k.out.getMap (f := Value.bool) hlt
      have hcellr := hC.cell hcell id
      have hgl := hcur.lt
      cases x
      · have hfin2 := Lib.hid (cBytes_fine hfine.out)
        have hl2 : (cBytes R bad).2.1.length ≤ 1000 := Nat.le_trans (cBytes_len R bad) hRl
        cases bad
        · go_wp2_with fail
          refine (bad_any g _ _ _ hcur).mono ?_
          rintro e wx ⟨rfl, rfl⟩
          go_wp2_with fail
          refine (bytes_any g _ _ _ hcur (by omega)).mono ?_
          rintro e w6 ⟨v6, rfl, hown, hcur6, hc6⟩
          generalize cBytes R false = z at *
          obtain ⟨z1, z2, z3⟩ := z
          simp only at *
          go_wp2_with (go_at_call 14; refine (bad_any g _ _ _ hcur6).mono ?_; rintro e w9 ⟨rfl, rfl⟩)
          go_roundw
          case rel => exact ⟨k + 1, z2, z3, by omega, rfl, by go_num, hcur6, hfin2, hl2, hC.trans2 hc6 fun b e => .inr (by omega)⟩
          case measure => simp [intOf]; omega
        · have hz := Lib.hid (cBytes_bad hfine.out)
          go_wp2_with fail
          refine (bad_any g _ _ _ hcur).mono ?_
          rintro e wx ⟨rfl, rfl⟩
          go_wp2_with fail
          refine (bytes_any g _ _ _ hcur (by omega)).mono ?_
          rintro e w6 ⟨v6, rfl, hown, hcur6, hc6⟩
          rw [hz.out] at hcur6 hown hfin2
          simp only at hcur6 hown hfin2
          obtain ⟨A6, n6, c6, rfl, hn6, _, _, _⟩ := hown.open_
          obtain rfl : n6 = 0 := hn6.out
          go_wp2_with (first | (go_at_call 14; refine (bad_any g _ _ _ hcur6).mono ?_; rintro e w9 ⟨rfl, rfl⟩) | (go_at_call 17; refine (end_any g _ _ _ hcur6).mono ?_; rintro e w9 ⟨rfl, rfl⟩) | (go_at_call 15; refine (left_any g _ _ _ hcur6).mono ?_; rintro e w9 ⟨rfl, rfl⟩))
          go_roundw
          case rel => exact ⟨k + 1, [], true, by omega, rfl, by go_num, hcur6, hfin2, by simp, hC.trans2 hc6 fun b e => .inr (by omega)⟩
          case measure => simp [intOf]; omega
      · have hfin2 := Lib.hid (cInt_fine hfine.out)
        have hl2 : (cInt R bad).2.1.length ≤ 1000 := Nat.le_trans (cInt_len R bad) hRl
        cases bad
        · go_wp2_with fail
          refine (bad_any g _ _ _ hcur).mono ?_
          rintro e wx ⟨rfl, rfl⟩
          go_wp2_with fail
          refine (int_any g _ _ _ hcur).mono ?_
          rintro e w6 ⟨rfl, hcur6, hc6⟩
          generalize cInt R false = z at *
          obtain ⟨z1, z2, z3⟩ := z
          simp only at *
          go_wp2_with (go_at_call 14; refine (bad_any g _ _ _ hcur6).mono ?_; rintro e w9 ⟨rfl, rfl⟩)
          go_roundw
          case rel => exact ⟨k + 1, z2, z3, by omega, rfl, by go_num, hcur6, hfin2, hl2, hC.trans2 hc6 fun b e => .inr (by omega)⟩
          case measure => simp [intOf]; omega
        · have hz := Lib.hid (cInt_bad hfine.out)
          go_wp2_with fail
          refine (bad_any g _ _ _ hcur).mono ?_
          rintro e wx ⟨rfl, rfl⟩
          go_wp2_with fail
          refine (int_any g _ _ _ hcur).mono ?_
          rintro e w6 ⟨rfl, hcur6, hc6⟩
          rw [hz.out] at hcur6 hfin2 ⊢
          simp only at hcur6 hfin2 ⊢
          go_wp2_with (first | (go_at_call 14; refine (bad_any g _ _ _ hcur6).mono ?_; rintro e w9 ⟨rfl, rfl⟩) | (go_at_call 17; refine (end_any g _ _ _ hcur6).mono ?_; rintro e w9 ⟨rfl, rfl⟩) | (go_at_call 15; refine (left_any g _ _ _ hcur6).mono ?_; rintro e w9 ⟨rfl, rfl⟩))
          go_roundw
          case rel => exact ⟨k + 1, [], true, by omega, rfl, by go_num, hcur6, hfin2, by simp, hC.trans2 hc6 fun b e => .inr (by omega)⟩
          case measure => simp [intOf]; omega
    · cases bad
      all_goals
        go_wp2_with (go_at_call 14; refine (bad_any g _ _ _ hcur).mono ?_; rintro e w9 ⟨rfl, rfl⟩)
        go_ret
        exact ⟨rfl, hC⟩

theorem packStays_walk (w : World) (A : Option Addr) (n c : Nat) (e0 : Rd Try.prog w 23 (Value.slice A n c).cells.toList) (A2 : Option Addr) (m c2 : Nat) (e1 : Rd Try.prog w 38 (Value.slice A2 m c2).cells.toList) :
    Calls Try.prog 7 #[.slice A n c, .slice A2 m c2] w fun e w2 => e = .returned (.bool true) ∧ Chg Non w w2 := by
  obtain ⟨A', n', c', b, h1, h2, h3, h4⟩ := e0.bytes Try.underlying23 (by kernel_rfl) Try.underlying5
  obtain ⟨A2', n2', c2', l, g1, g2, g3, g4⟩ := e1.bools Try.underlying38 (by kernel_rfl) Try.underlying4
  simp only [Value.cells, List.cons.injEq, and_true, Value.slice.injEq] at h1 g1
  obtain ⟨rfl, rfl, rfl⟩ := h1
  obtain ⟨rfl, rfl, rfl⟩ := g1
  by_cases hn : n ≤ 1000 ∧ m ≤ 200
  · exact packStays_core w A n c b h4 A2 m c2 l g4 hn.1 hn.2
  · clear h4 g4 e0 e1
    have hn2 : 1000 < n ∨ 200 < m := by omega
    unfold maxLen at h3 g3
    clear hn
    rcases Nat.lt_or_ge 1000 n with h | h
    all_goals
      have h5 : 200 < m ∨ 1000 < n := by omega
      go_enter Try.func7, Try.ntmps7
      go_wp2_with fail
      refine (alive_any _).mono ?_
      rintro e w1 ⟨rfl, hc1⟩
      go_wp2_with fail
      go_ret
      exact ⟨rfl, hc1⟩
end Go.Proofs.Ytbjpnnpbhocffaa
