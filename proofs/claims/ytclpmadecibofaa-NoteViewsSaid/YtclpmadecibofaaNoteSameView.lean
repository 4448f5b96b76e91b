/-
  gleanerref14.SameView.
-/
import Derived.Test.YtclpmadecibofaaNoteMay
namespace Go.Proofs.Ytclpmadecibofaa
open Go.RowKit
set_option linter.unusedVariables false
set_option linter.unusedSimpArgs false

theorem neq_mb (x y : Mb) (h : x ≠ y) (w : World) : (binOp .neq 50 (.agg #[.int .i64 x.1, .int .i64 x.2]) (.agg #[.int .i64 y.1, .int .i64 y.2])).run Try.prog w = .ok (.bool true) w := by
  go_simp
  intro e1 e2
  exact h (Prod.ext e1 e2)
theorem same_take {α : Type} {l m : List α} {k : Nat} {x y : α} (hl : l[k]? = some x) (hm : m[k]? = some y) (h : l.take k = m.take k) : l.take (k + 1) = m.take (k + 1) ↔ x = y := by
  rw [List.take_add_one, List.take_add_one, h, hl, hm]
  simp
theorem differ {α : Type} {l m : List α} {k : Nat} {x y : α} (hl : l[k]? = some x) (hm : m[k]? = some y) (h : x ≠ y) : l ≠ m := by
  rintro rfl
  rw [hl] at hm
  exact h (Option.some.inj hm)

set_option maxRecDepth 100000 in
set_option maxHeartbeats 2000000 in
theorem sameView_any (w : World) (e1 e2 : Int) (A : Option Addr) (n c : Nat) (B : Option Addr) (m d : Nat) (L1 L2 : List Mb) (h1 : Rds w 2 A n (mv L1)) (h2 : Rds w 2 B m (mv L2)) (hn : n ≤ 9223372036854775807) :
    Calls Try.prog 19 #[.agg #[.int .i64 e1, .slice A n c], .agg #[.int .i64 e2, .slice B m d]] w fun e w2 => e = .returned (.bool (e1 == e2 && L1 == L2)) ∧ Chg Non w w2 := by
  have Hl1 := Lib.hid h1.lenM
  have Hl2 := Lib.hid h2.lenM
  cases te : (e1 != e2) with
  | true =>
    have hno : Hid ((e1 == e2 && L1 == L2) = false) := by show _ = _; rw [show (e1 == e2) = false from by simpa using te]; rfl
    clear h1 h2
    go_enter Try.func19, Try.ntmps19
    go_wp2_with fail
    go_ret
    exact ⟨by rw [hno.out]; rfl, ((Chg.refl _ _).alloc _).alloc _⟩
  | false =>
    obtain rfl : e1 = e2 := by simpa using te
    clear te
    by_cases hnm : n = m
    case neg =>
      have hne : ((n : Int) != (m : Int)) = true := by rw [bne_iff_ne]; omega
      have hno : Hid ((e1 == e1 && L1 == L2) = false) := by
        show _ = _
        rw [show (L1 == L2) = false from beq_eq_false_iff_ne.2 (fun e => hnm (by rw [Hl1.out, Hl2.out, e]))]
        simp
      clear h1 h2 hnm
      go_enter Try.func19, Try.ntmps19
      go_wp2_with fail
      go_ret
      exact ⟨by rw [hno.out]; rfl, ((Chg.refl _ _).alloc _).alloc _⟩
    subst hnm
    obtain ⟨w1, hw1⟩ : ∃ w1, (w.alloc (.cells #[.int .i64 e1, .slice A n c] 29)).alloc (.cells #[.int .i64 e1, .slice B n d] 29) = w1 := ⟨_, rfl⟩
    have hC : Chg Non w w1 := hw1 ▸ ((Chg.refl _ _).alloc _).alloc _
    have hb1 : Blk w1 w.heap.size 29 #[.int .i64 e1, .slice A n c] := hw1 ▸ (Blk.new w _ _).alloc _
    have hb2 : Blk w1 (w.heap.size + 1) 29 #[.int .i64 e1, .slice B n d] := by
      have := Blk.new (w.alloc (.cells #[.int .i64 e1, .slice A n c] 29)) 29 #[.int .i64 e1, .slice B n d]
      rw [hw1, World.size_alloc] at this
      exact this
    have H1 := Lib.hid (h1.non hC)
    have H2 := Lib.hid (h2.non hC)
    have c0 := hb1.cell 0
    have c1 := hb1.cell 1
    have d0 := hb2.cell 0
    have d1 := hb2.cell 1
    simp only [List.getElem?_toArray, List.getElem?_cons_zero, List.getElem?_cons_succ] at c0 c1 d0 d1
    clear h1 h2
    go_enter Try.func19, Try.ntmps19
    go_wp2_with fail
    clear hw1 c0 c1 d0 d1
    go_loopw [5] (fun i wr => ∃ k : Nat, k ≤ n ∧ i = .int .i64 k ∧ Hid (L1.take k = L2.take k) ∧ Chg Non w1 wr) (fun i _ => n - (intOf i).toNat)
    case atStart => exact ⟨0, Nat.zero_le _, rfl, rfl, Chg.refl _ _⟩
    case round =>
      obtain ⟨k, hk, rfl, hs, hC2⟩ := hrel
      have c1 := (hb1.non hC2).cell 1
      have d1 := (hb2.non hC2).cell 1
      simp only [List.getElem?_toArray, List.getElem?_cons_zero, List.getElem?_cons_succ] at c1 d1
      by_cases hlt : k < n
      · obtain ⟨ad, x, rfl, hx, hc0, hc1⟩ := H1.out.getM hlt
        obtain ⟨ad2, y, rfl, hy, hd0, hd1⟩ := H2.out.getM hlt
        have a0 := hC2.cell hc0 id
        have a1 := hC2.cell hc1 id
        have b0 := hC2.cell hd0 id
        have b1 := hC2.cell hd1 id
        have i1 : (0 : Int) ≤ (k : Int) := by omega
        have i2 : (k : Int) < n := by omega
        have hsame := same_take hx hy hs.out
        clear hc0 hc1 hd0 hd1
        by_cases hxy : x = y
        · have hs2 : Hid (L1.take (k + 1) = L2.take (k + 1)) := hsame.2 hxy
          subst hxy
          clear hx hy hsame
          go_wp2_with fail
          go_quiet (fail)
          go_wp2_with fail
          go_roundw
          case rel => exact ⟨k + 1, by omega, by go_num, hs2, hC2.drewN _⟩
          case measure => simp [intOf]; omega
        · have hno : Hid ((e1 == e1 && L1 == L2) = false) := by show _ = _; rw [show (L1 == L2) = false from beq_eq_false_iff_ne.2 (differ hx hy hxy)]; simp
          have hne := neq_mb x y hxy
          have hCw := hC.non hC2
          clear hx hy hsame hxy
          go_wp2_with fail
          go_quiet (fail)
          go_wp2_with fail
          go_ret
          exact ⟨by rw [hno.out]; rfl, hCw.drewN _⟩
      · obtain rfl : k = n := by omega
        have hyes : Hid ((e1 == e1 && L1 == L2) = true) := by
          show _ = _
          have := hs.out
          rw [List.take_of_length_le (by have := Hl1.out; omega), List.take_of_length_le (by have := Hl2.out; omega)] at this
          rw [this]
          simp
        go_wp2_with fail
        go_ret
        exact ⟨by rw [hyes.out]; rfl, hC.non hC2⟩
end Go.Proofs.Ytclpmadecibofaa
