/-
  gleanerref4.SameEntries of two trees that are one.
-/
import Derived.Test.YteinbdifncdaiaaTraceTree
import Derived.Test.YteinbdifncdaiaaSameInts
namespace Go.Proofs.Yteinbdifncdaiaa
open Go.RowKit
set_option linter.unusedVariables false
set_option linter.unusedSimpArgs false

/-- Two entries without arguments that say the same. -/
structure EntSame (x y : Ent) : Prop where
  id : x.id = y.id
  fn : x.fn = y.fn
  steps : x.steps = y.steps
  kids : x.kids = y.kids
  err : x.err = y.err
  val : x.val = y.val
  gx : x.gn = 0
  gy : y.gn = 0
  aw : x.aw = y.aw
  an : x.an = y.an

set_option maxRecDepth 100000 in
set_option maxHeartbeats 4000000 in
theorem sameEntries_same (w : World) (A : Option Addr) (n c : Nat) (E : List Ent) (B : Option Addr) (d : Nat) (E2 : List Ent) (h1 : EntRow w A n E) (h2 : EntRow w B n E2) (hn : n ≤ 1000000) (hs : ∀ (k : Nat) (x y : Ent), E[k]? = some x → E2[k]? = some y → EntSame x y) :
    Calls Try.prog 13 #[.slice A n c, .slice B n d] w fun e w2 => e = .returned (.bool true) ∧ Chg Non w w2 := by
  have H1 := Lib.hid h1
  have H2 := Lib.hid h2
  have Hs := Lib.hid hs
  clear h1 h2 hs
  go_enter Try.func13, Try.ntmps13
  go_wp2_with fail
  go_loopw [5] (fun i wr => ∃ k : Nat, k ≤ n ∧ i = .int .i64 k ∧ Chg Non w wr) (fun i _ => n - (intOf i).toNat)
  case atStart => exact ⟨0, Nat.zero_le _, rfl, Chg.refl _ _⟩
  case round =>
    obtain ⟨k, hk, rfl, hC⟩ := hrel
    by_cases hlt : k < n
    · obtain ⟨ad, x, rfl, hx, a0, a1, a2, a3, a4, a5, a6, a7⟩ := H1.out.row.getE hlt
      obtain ⟨bd, y, rfl, hy, c0, c1, c2, c3, c4, c5, c6, c7⟩ := H2.out.row.getE hlt
      have a0 := hC.cell a0 id
      have a1 := hC.cell a1 id
      have a2 := hC.cell a2 id
      have a3 := hC.cell a3 id
      have a4 := hC.cell a4 id
      have a5 := hC.cell a5 id
      have a6 := hC.cell a6 id
      have a7 := hC.cell a7 id
      obtain ⟨e1, e2, e3, e4, e5, e6, e7, e8, e9, e10⟩ := Hs.out k x y hx hy
      obtain ⟨r1, n1, _, _⟩ := H1.out.ok x (List.mem_of_getElem? hx)
      obtain ⟨r2, _, _, _⟩ := H2.out.ok y (List.mem_of_getElem? hy)
      obtain ⟨xi, xf, xgA, xgn, xgc, xe, xv, xs, xk, xaA, xan, xac, xaw⟩ := x
      obtain ⟨yi, yf, ygA, ygn, ygc, ye, yv, ys, yk, yaA, yan, yac, yaw⟩ := y
      simp only at e1 e2 e3 e4 e5 e6 e7 e8 e9 e10 r1 r2 n1 a0 a1 a2 a3 a4 a5 a6 a7 c0 c1 c2 c3 c4 c5 c6 c7
      subst e1 e2 e3 e4 e5 e6 e7 e8 e9 e10
      have hCa := hC.alloc (.cells #[.string xi, .int .i64 xf, .slice xgA 0 xgc, .int .i64 xe, .int .i64 xv, .int .i64 xs, .int .i64 xk, .slice xaA xan xac] 32)
      have c0 := hCa.cell c0 _root_.id
      have c1 := hCa.cell c1 _root_.id
      have c2 := hCa.cell c2 _root_.id
      have c3 := hCa.cell c3 _root_.id
      have c4 := hCa.cell c4 _root_.id
      have c5 := hCa.cell c5 _root_.id
      have c6 := hCa.cell c6 _root_.id
      have c7 := hCa.cell c7 _root_.id
      clear hCa
      have b1 : (0 : Int) ≤ (k : Int) := by omega
      have b2 : (k : Int) < n := by omega
      obtain ⟨w1, hw1⟩ : ∃ w1, (wr.alloc (.cells #[.string xi, .int .i64 xf, .slice xgA 0 xgc, .int .i64 xe, .int .i64 xv, .int .i64 xs, .int .i64 xk, .slice xaA xan xac] 32)).alloc (.cells #[.string xi, .int .i64 xf, .slice ygA 0 ygc, .int .i64 xe, .int .i64 xv, .int .i64 xs, .int .i64 xk, .slice yaA xan yac] 32) = w1 := ⟨_, rfl⟩
      have hb1 : Blk w1 wr.heap.size 32 #[.string xi, .int .i64 xf, .slice xgA 0 xgc, .int .i64 xe, .int .i64 xv, .int .i64 xs, .int .i64 xk, .slice xaA xan xac] := hw1 ▸ (Blk.new wr _ _).alloc _
      have hb2 : Blk w1 (wr.heap.size + 1) 32 #[.string xi, .int .i64 xf, .slice ygA 0 ygc, .int .i64 xe, .int .i64 xv, .int .i64 xs, .int .i64 xk, .slice yaA xan yac] := by
        have := Blk.new (wr.alloc (.cells #[.string xi, .int .i64 xf, .slice xgA 0 xgc, .int .i64 xe, .int .i64 xv, .int .i64 xs, .int .i64 xk, .slice xaA xan xac] 32)) 32 #[.string xi, .int .i64 xf, .slice ygA 0 ygc, .int .i64 xe, .int .i64 xv, .int .i64 xs, .int .i64 xk, .slice yaA xan yac]
        rw [World.size_alloc, hw1] at this
        exact this
      have hC1 : Chg Non w w1 := hw1 ▸ ((hC.alloc _).alloc _)
      have Hw1 := Lib.hid hw1
      clear hw1 hx hy
      go_wp2_with fail
      rw [Hw1.out]
      refine (sameRes_any xe xv xe xv w1).mono ?_
      rintro e w2 ⟨rfl, hc2⟩
      have hb12 := hb1.non hc2
      have hb22 := hb2.non hc2
      have hC2 := hC1.non hc2
      have x2 := hb12.cell 2
      have y2 := hb22.cell 2
      simp only [List.getElem?_toArray, List.getElem?_cons_zero, List.getElem?_cons_succ] at x2 y2
      have l1 := hb12.lt
      have l2 := hb22.lt
      clear hc2 hC1
      go_wp2_with fail
      refine (sameInts_any w2 xgA 0 xgc [] ygA 0 ygc [] ⟨rfl, fun h => by omega⟩ ⟨rfl, fun h => by omega⟩ (by omega)).mono ?_
      rintro e w3 ⟨rfl, hc3⟩
      have hb13 := hb12.non hc3
      have hb23 := hb22.non hc3
      have hC3 := hC2.non hc3
      have x7 := hb13.cell 7
      have y7 := hb23.cell 7
      simp only [List.getElem?_toArray, List.getElem?_cons_zero, List.getElem?_cons_succ] at x7 y7
      have l3 := hb13.lt
      have l4 := hb23.lt
      have hsi := sameInts_any w3 xaA xan xac xaw yaA xan yac xaw (r1.non hC3) (r2.non hC3) (by omega)
      rw [beq_self_eq_true] at hsi
      clear hc3 hC2 x2 y2
      go_wp2_with fail
      refine hsi.mono ?_
      rintro e w4 ⟨rfl, hc4⟩
      have hC4 := hC3.non hc4
      clear hc4 hsi
      go_wp2_with fail
      go_roundw
      case rel => exact ⟨k + 1, by omega, by go_num, hC4⟩
      case measure => simp [intOf]; omega
    · go_wp2_with fail
      go_ret
      exact ⟨rfl, hC⟩
end Go.Proofs.Yteinbdifncdaiaa
