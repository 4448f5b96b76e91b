/-
  gleanerlaw4.Big: some answer; a job as an argument.
-/
import Derived.Test.YteinbdifncdaiaaTdDeepDep
import Derived.Test.YteinbdifncdaiaaTdTraceSameWalk
namespace Go.Proofs.Yteinbdifncdaiaa
open Go.ChangeShapes Go.WideShapes Go.ChangeAt Go.RowKit
set_option linter.unusedVariables false
set_option linter.unusedSimpArgs false

set_option maxRecDepth 100000 in
theorem Rd.ins1 {w : World} {l : List Value} (h : Rd Try.prog w 116 l) (hl : l.length = 2) : ∃ i : Int × Int, l = cellI i ∧ True := by
  obtain ⟨_, hg⟩ := h.structG Try.underlying116
  match l, hl, hg with
  | [a, b], _, hg =>
    obtain ⟨x1, h1, _⟩ := (show Rd Try.prog w 3 [a] from hg 0 _ rfl).i64 Try.underlying3
    obtain ⟨x2, h2, _⟩ := (show Rd Try.prog w 3 [b] from hg 1 _ rfl).i64 Try.underlying3
    simp only [List.cons.injEq, and_true] at h1 h2
    subst h1 h2
    exact ⟨(x1, x2), rfl, trivial⟩
/-- What a function as an argument reads as. -/
def FnRd (w : World) (f : Fn) : Prop := Rds w 2 f.cA f.cn (f.code.flatMap cellI) ∧ f.cn ≤ 9223372036854775807 ∧ f.nm.size ≤ 9223372036854775807
set_option maxRecDepth 100000 in
theorem Rd.fn1 {w : World} {l : List Value} (h : Rd Try.prog w 67 l) (hl : l.length = 4) : ∃ f : Fn, l = cellF f ∧ FnRd w f := by
  obtain ⟨_, hg⟩ := h.structG Try.underlying67
  match l, hl, hg with
  | [a, b, c, d], _, hg =>
    obtain ⟨x1, h1, k1⟩ := (show Rd Try.prog w 9 [a] from hg 0 _ rfl).string Try.underlying9
    obtain ⟨x2, h2, _⟩ := (show Rd Try.prog w 3 [b] from hg 1 _ rfl).i64 Try.underlying3
    obtain ⟨x3, h3, _⟩ := (show Rd Try.prog w 3 [c] from hg 2 _ rfl).i64 Try.underlying3
    obtain ⟨cA, cn, cc, X, h4, k4, k5, k6, _⟩ := (show Rd Try.prog w 65 [d] from hg 3 _ rfl).rows Try.underlying65 (by kernel_rfl) cellI_len fun l hl hr => hr.ins1 hl
    simp only [List.cons.injEq, and_true] at h1 h2 h3 h4
    subst h1 h2 h3 h4
    unfold maxLen at k1 k5
    exact ⟨⟨x1, x2, x3, cA, cn, cc, X⟩, rfl, k6, by show cn ≤ _; omega, by show x1.size ≤ _; omega⟩
set_option maxRecDepth 100000 in
theorem Rd.job {w : World} {S : Array Value} (h : Rd Try.prog w 48 (Value.agg S).cells.toList) : ∃ j : Jb, S = jbC j ∧ JbAt w j := by
  obtain ⟨hl, hg⟩ := h.structG Try.underlying48
  obtain ⟨⟨l⟩, rfl⟩ : ∃ T : Array Value, S = T := ⟨S, rfl⟩
  have hl5 : l.length = 5 := by rw [show Try.prog.cellsOf 48 = 5 by kernel_rfl] at hl; exact hl
  match l, hl5, hg with
  | [a, b, c, d, e], _, hg =>
    obtain ⟨fA, fn, fc, F, h1, k1, k2, k3, k4⟩ := (show Rd Try.prog w 46 [a] from hg 0 _ rfl).rows Try.underlying46 (by kernel_rfl) cellF_len fun l hl hr => hr.fn1 hl
    obtain ⟨x2, h2, _⟩ := (show Rd Try.prog w 3 [b] from hg 1 _ rfl).i64 Try.underlying3
    obtain ⟨aA, an, ac, N, h3, k5, k6, k7, _⟩ := (show Rd Try.prog w 27 [c] from hg 2 _ rfl).ints Try.underlying27 (by kernel_rfl) Try.underlying3
    obtain ⟨x4, h4, _⟩ := (show Rd Try.prog w 3 [d] from hg 3 _ rfl).i64 Try.underlying3
    obtain ⟨x5, h5, _⟩ := (show Rd Try.prog w 3 [e] from hg 4 _ rfl).i64 Try.underlying3
    simp only [List.cons.injEq, and_true] at h1 h2 h3 h4 h5
    subst h1 h2 h3 h4 h5
    unfold maxLen at k2 k6
    exact ⟨⟨fA, fn, fc, F, x2, aA, an, ac, N, x4, x5⟩, rfl, ⟨k3, by show fn ≤ _; omega⟩, k4, k7, by show an ≤ _; omega⟩
set_option maxRecDepth 100000 in
set_option maxHeartbeats 4000000 in
theorem refBig_any (w : World) (j : Jb) (hj : JbAt w j) :
    Calls Try.prog 17 #[.agg (jbC j)] w fun e w2 => SomeB e ∧ Chg Non w w2 := by
  obtain ⟨w1, hw1⟩ : ∃ w1, w.alloc (.cells (jbC j) 48) = w1 := ⟨_, rfl⟩
  have hc1 : Chg Non w w1 := hw1 ▸ (Chg.refl _ _).alloc _
  have hb1 : Blk w1 w.heap.size 48 (jbC j) := hw1 ▸ Blk.new w _ _
  have x0 : w1.cell? ⟨w.heap.size, 0, none⟩ = some (.slice j.fA j.fn j.fc) := hb1.cell 0
  have x2 : w1.cell? ⟨w.heap.size, 2, none⟩ = some (.slice j.aA j.an j.ac) := hb1.cell 2
  have xl := hb1.lt
  have hfl := hj.fns.le
  have hal := hj.argn
  have Hj := Lib.hid hj
  have Hc1 := Lib.hid hc1
  have Hb1 := Lib.hid hb1
  clear hj hc1 hb1
  unfold jbC at hw1 ⊢
  by_cases hbig : 60 < j.fn ∨ (j.fn ≤ 60 ∧ 100 < j.an)
  · have Hc := Lib.hid Hc1.out
    rcases hbig with h | ⟨h, h2⟩
    all_goals
      go_enter Try.func17, Try.ntmps17
      go_wp2_with fail
      go_ret
      exact ⟨⟨true, rfl⟩, Hc.out⟩
  · have h60 : j.fn ≤ 60 := by omega
    have h100 : j.an ≤ 100 := by omega
    clear hbig
    go_enter Try.func17, Try.ntmps17
    go_wp2_with fail
    go_loopw [3, 4] (fun q i wr => ∃ (k : Nat) (n : Int), k ≤ j.fn ∧ i = .int .i64 k ∧ q = .int .i64 n ∧ Chg Non w1 wr) (fun _ i _ => j.fn - (intOf i).toNat)
    case atStart => exact ⟨0, 0, Nat.zero_le _, rfl, rfl, Chg.refl _ _⟩
    case round =>
      obtain ⟨k, n, hk, rfl, rfl, hC⟩ := hrel
      have y0 : wr.cell? ⟨w.heap.size, 0, none⟩ = some (.slice j.fA j.fn j.fc) := hC.cell x0 _root_.id
      have yl : w.heap.size < wr.heap.size := Nat.lt_of_lt_of_le xl hC.size
      have HC := Lib.hid hC
      clear x0 x2 hw1 hC
      by_cases hlt : k < j.fn
      · by_cases hn2 : n ≤ 2000
        · obtain ⟨ad, f, hA, hf, c0, c1, c2, c3⟩ := ((Hj.out.non Hc1.out).non HC.out).fns.get hlt
          rw [hA] at y0
          have i1 : (0 : Int) ≤ (k : Int) := by omega
          have i2 : (k : Int) < j.fn := by omega
          clear hA hf c1 c2
          go_wp2_with fail
          go_quiet (fail)
          have HC2 := Lib.hid (HC.out.non ((Chg.refl _ _).drewN nq))
          go_wp2_with fail
          go_roundw
          case rel => exact ⟨k + 1, _, by omega, by go_num, rfl, HC2.out⟩
          case measure => simp [intOf]; omega
        · go_wp2_with fail
          go_ret
          exact ⟨⟨_, rfl⟩, Hc1.out.non HC.out⟩
      · go_wp2_with fail
        go_ret
        exact ⟨⟨_, rfl⟩, Hc1.out.non HC.out⟩
end Go.Proofs.Yteinbdifncdaiaa
