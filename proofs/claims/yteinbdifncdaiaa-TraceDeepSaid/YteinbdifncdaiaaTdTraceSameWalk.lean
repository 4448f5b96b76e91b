/-
  gleanerlaw29.TraceSame: the walk.
-/
import Derived.Test.YteinbdifncdaiaaTdTraceCount
import Derived.Test.YteinbdifncdaiaaTdTraceLeft0
import Derived.Test.YteinbdifncdaiaaTdRow
import Derived.Test.YteinbdifncdaiaaTdRdRows
namespace Go.Proofs.Yteinbdifncdaiaa
open Go.ChangeShapes Go.WideShapes Go.ChangeAt Go.RowKit
set_option linter.unusedVariables false
set_option linter.unusedSimpArgs false

theorem Rd.structG {P : Program} {w : World} {t : TypeId} {cs : List Value} {fs : Array Field} (ht : P.underlying t = some (.struct fs)) (h : Rd P w t cs) :
    cs.length = P.cellsOf t ∧ ∀ (i : Nat) (f : Field), fs[i]? = some f → Rd P w f.type ((cs.drop f.offset).take (P.cellsOf f.type)) := by
  obtain ⟨H, enc, base, spare, held, fuel, x, h⟩ := h
  obtain ⟨xs, n, _, _, hl, hxl, hg⟩ := DataW.trod_struct ht h
  refine ⟨hl, fun i f hf => ?_⟩
  have h1 := hg i f hf
  have hxi : i < xs.length := by rw [hxl]; exact (Array.getElem?_eq_some_iff.1 hf).1
  rw [List.getElem?_eq_getElem hxi] at h1
  exact ⟨H, enc, base, spare, held, n, _, h1⟩
set_option maxRecDepth 100000 in
theorem Rd.cm {w : World} {l : List Value} (h : Rd Try.prog w 34 l) (hl : l.length = 3) : ∃ a : Cm, l = cellC a ∧ True := by
  obtain ⟨_, hg⟩ := h.structG Try.underlying34
  match l, hl, hg with
  | [a, b, c], _, hg =>
    obtain ⟨x1, h1, k1⟩ := (show Rd Try.prog w 26 [a] from hg 0 _ rfl).string Try.underlying26
    obtain ⟨_, hg2⟩ := (show Rd Try.prog w 30 [b, c] from hg 1 _ rfl).structG Try.underlying30
    obtain ⟨x2, h2, k2⟩ := (show Rd Try.prog w 28 [b] from hg2 0 _ rfl).i64 Try.underlying28
    obtain ⟨x3, h3, k3⟩ := (show Rd Try.prog w 3 [c] from hg2 1 _ rfl).i64 Try.underlying3
    simp only [List.cons.injEq, and_true] at h1 h2 h3
    subst h1 h2 h3
    exact ⟨(x1, x2, x3), rfl, trivial⟩
theorem Rd.cms {w : World} {cs : List Value} (h : Rd Try.prog w 25 cs) :
    ∃ A n c, ∃ X : List Cm, cs = [.slice A n c] ∧ n ≤ c ∧ c ≤ maxLen ∧ Rds w 3 A n (X.flatMap cellC) ∧ ∀ a ∈ X, True :=
  h.rows Try.underlying25 (by kernel_rfl) cellC_len fun l hl hr => hr.cm hl

theorem sameC_p (w : World) (A : Option Addr) (n c : Nat) (B : Option Addr) (m d : Nat) (L1 L2 : List Cm) (h1 : Rds w 3 A n (cv L1)) (h2 : Rds w 3 B m (cv L2)) (hn : n ≤ 1000000) (hm : m ≤ 1000000) (p : Bool) (hp : p = true ↔ L1.Perm L2) :
    Calls Try.prog 15 #[.slice A n c, .slice B m d] w fun e w2 => e = .returned (.bool p) ∧ Chg Non w w2 := by
  refine (sameC_any w A n c B m d L1 L2 h1 h2 hn hm).mono ?_
  rintro e w2 ⟨rfl, hc⟩
  refine ⟨?_, hc⟩
  congr 2
  rw [Bool.eq_iff_iff, decide_eq_true_iff]
  exact hp.symm
theorem refSameC_p (w : World) (A : Option Addr) (n c : Nat) (B : Option Addr) (m d : Nat) (L1 L2 : List Cm) (h1 : Rds w 3 A n (cv L1)) (h2 : Rds w 3 B m (cv L2)) (hn : n ≤ 1000000) (hm : m ≤ 1000000) (p : Bool) (hp : p = true ↔ L1.Perm L2) :
    Calls Try.prog 16 #[.slice A n c, .slice B m d] w fun e w2 => e = .returned (.bool p) ∧ Chg Non w w2 := by
  refine (refSameC_any w A n c B m d L1 L2 h1 h2 hn hm).mono ?_
  rintro e w2 ⟨rfl, hc⟩
  refine ⟨?_, hc⟩
  congr 2
  rw [Bool.eq_iff_iff, decide_eq_true_iff]
  exact hp.symm

set_option maxRecDepth 100000 in
set_option maxHeartbeats 4000000 in
theorem traceSame_core (w : World) (A : Option Addr) (n c : Nat) (L1 : List Cm) (h1 : Rds w 3 A n (cv L1)) (hn9 : n ≤ maxLen) (B : Option Addr) (m d : Nat) (L2 : List Cm) (h2 : Rds w 3 B m (cv L2)) (hm9 : m ≤ maxLen) :
    Calls Try.prog 5 #[.slice A n c, .slice B m d] w fun e w2 => e = .returned (.bool true) ∧ Chg Non w w2 := by
  have H1 := Lib.hid h1
  have H2 := Lib.hid h2
  have Hl1 := Lib.hid (flat_eq cellC_len (by decide) h1)
  obtain ⟨p, hp⟩ : ∃ p : Bool, p = true ↔ L1.Perm L2 := by
    by_cases h : L1.Perm L2
    · exact ⟨true, by simp [h]⟩
    · exact ⟨false, by simp [h]⟩
  have Hp := Lib.hid hp
  have Hn9 := Lib.hid hn9
  have Hm9 := Lib.hid hm9
  clear h1 h2 hp hn9 hm9
  go_enter Try.func5, Try.ntmps5
  go_wp2_with fail
  refine (trace_alive _).mono ?_
  rintro e w1 ⟨rfl, hC1⟩
  go_wp2_with fail
  refine (bigC_any w1 A n c L1 (H1.out.non hC1) Hn9.out).mono ?_
  rintro e w2 ⟨x1, rfl, hx1, hc2⟩
  have hC2 := hC1.non hc2
  clear hc2 hC1
  cases x1 with
  | true =>
    clear hx1
    go_wp2_with fail
    go_ret
    exact ⟨rfl, hC2⟩
  | false =>
    have hn : n ≤ 100 := hx1 rfl
    clear hx1
    go_wp2_with fail
    refine (bigC_any w2 B m d L2 (H2.out.non hC2) Hm9.out).mono ?_
    rintro e w3 ⟨x2, rfl, hx2, hc3⟩
    have hC3 := hC2.non hc3
    clear hc3 hC2
    cases x2 with
    | true =>
      clear hx2
      go_wp2_with fail
      go_ret
      exact ⟨rfl, hC3⟩
    | false =>
      have hm : m ≤ 100 := hx2 rfl
      clear hx2
      go_wp2_with fail
      go_loopw [7, 8] (fun v i wr => ∃ j : Nat, j ≤ n ∧ i = .int .i64 ((j : Int) - 1) ∧ OwnR rkC wr w.heap.size v (n - j) (cv (L1.drop j).reverse) ∧ Chg Non w wr) (fun _ i _ => (intOf i + 1).toNat)
      case atStart => exact ⟨n, Nat.le_refl _, rfl, by rw [Nat.sub_self, List.drop_of_length_le (by have := Hl1.out; omega)]; exact OwnR.nil _ _ _, hC3⟩
      case round =>
        clear hC3
        obtain ⟨j, hj, rfl, hO, hC⟩ := hrel
        have hsz := hC.size
        cases j with
        | succ q =>
          have e0 : (((q + 1 : Nat) : Int) - 1) = (q : Int) := by omega
          rw [e0]
          have hlt : q < n := by omega
          obtain ⟨ad, ⟨a, b, e⟩, rfl, hx, hc0, hc⟩ := H1.out.getN cellC_len (by decide) hlt
          have z0 : wr.cell? (ad.add (q * 3)) = some (.string a) := hC.cell (hc0 _ rfl) _root_.id
          have z1 : wr.cell? ⟨(ad.add (q * 3)).block, (ad.add (q * 3)).off + 1, none⟩ = some (.int .i64 b) := hC.cell (hc 0 _ rfl) _root_.id
          have z2 : wr.cell? ⟨(ad.add (q * 3)).block, (ad.add (q * 3)).off + 2, none⟩ = some (.int .i64 e) := hC.cell (hc 1 _ rfl) _root_.id
          have i0 : (q : Int) ≥ 0 := by omega
          have i1 : (0 : Int) ≤ (q : Int) := by omega
          have i2 : (q : Int) < n := by omega
          have hst : Hid ((L1.drop q).reverse = (L1.drop (q + 1)).reverse ++ [(a, b, e)]) := by
            have h9 := List.getElem?_eq_some_iff.1 hx
            show _ = _
            rw [List.drop_eq_getElem_cons h9.1, h9.2, List.reverse_cons]
          have hnq : n - (q + 1) ≤ 1000 := by omega
          clear hx hc0 hc e0
          go_wp2_with (at_builtin; refine appR1s (K := rkC) rfl (.tmp 29) (.tmp 34) rfl hO rfl (cs := #[.string a, .int .i64 b, .int .i64 e]) rfl rfl (cellC_one (a, b, e)) ?_ ?_ ?_; (next => omega); (next => omega); intro A6 c6 w6 hO6 hc6 hb6)
          have hO7 : OwnR rkC w6 w.heap.size (.slice A6 (n - (q + 1) + 1) c6) (n - q) (cv (L1.drop q).reverse) := by
            rw [hst.out, cv_snoc, show n - q = n - (q + 1) + 1 by omega]
            exact hO6
          have hC7 : Chg Non w w6 := hC.trans2 hc6 (fun b e => .inr (hO.lt e).1)
          have HO7 := Lib.hid hO7
          clear hO6 hc6 hb6 hO7 hO hC z0 z1 z2
          go_wp2_with fail
          go_roundw
          case rel => exact ⟨q, by omega, by go_num, HO7.out, hC7⟩
          case measure => first | (simp [intOf]; done) | (simp [intOf]; omega)
        | zero =>
          have e0 : (((0 : Nat) : Int) - 1) = -1 := rfl
          rw [e0]
          rw [List.drop_zero, Nat.sub_zero] at hO
          obtain ⟨A5, c5, rfl, _, _, r5, _⟩ := hO.open_
          have R5 := Lib.hid r5
          clear hO r5 e0
          go_wp2_with fail
          refine (sameC_p wr A n c B m d L1 L2 (H1.out.non hC) (H2.out.non hC) (by omega) (by omega) p Hp.out).mono ?_
          rintro e w4 ⟨rfl, k4⟩
          go_wp2_with fail
          refine (refSameC_p w4 A n c B m d L1 L2 (H1.out.non (hC.non k4)) (H2.out.non (hC.non k4)) (by omega) (by omega) p Hp.out).mono ?_
          rintro e w5 ⟨rfl, k5⟩
          have k5 := k4.non k5
          have hpp : (p == p) = true := beq_self_eq_true _
          go_wp2_with fail
          refine (sameC_p w5 A n c A5 n c5 L1 L1.reverse (H1.out.non (hC.non k5)) (R5.out.non k5) (by omega) (by omega) true ⟨fun _ => (List.reverse_perm L1).symm, fun _ => rfl⟩).mono ?_
          rintro e w6 ⟨rfl, k6⟩
          have k6 := k5.non k6
          go_wp2_with fail
          refine (sameC_p w6 B m d A n c L2 L1 (H2.out.non (hC.non k6)) (H1.out.non (hC.non k6)) (by omega) (by omega) p ⟨fun h => (Hp.out.1 h).symm, fun h => Hp.out.2 h.symm⟩).mono ?_
          rintro e w7 ⟨rfl, k7⟩
          have k7 := k6.non k7
          go_wp2_with fail
          refine (sameC_p w7 A n c B m d L1 L2 (H1.out.non (hC.non k7)) (H2.out.non (hC.non k7)) (by omega) (by omega) p Hp.out).mono ?_
          rintro e w8 ⟨rfl, k8⟩
          go_wp2_with fail
          go_ret
          exact ⟨rfl, (hC.non k7).non k8⟩

theorem traceSame_walk (w : World) (A : Option Addr) (n c : Nat) (e1 : Rd Try.prog w 25 (Value.slice A n c).cells.toList) (B : Option Addr) (m d : Nat) (e2 : Rd Try.prog w 25 (Value.slice B m d).cells.toList) :
    Calls Try.prog 5 #[.slice A n c, .slice B m d] w fun e w2 => e = .returned (.bool true) ∧ Chg Non w w2 := by
  obtain ⟨A', n', c', X, g1, g2, g3, g4, _⟩ := e1.cms
  simp only [Value.cells, List.cons.injEq, and_true, Value.slice.injEq] at g1
  obtain ⟨rfl, rfl, rfl⟩ := g1
  obtain ⟨A', n', c', Y, i1, i2, i3, i4, _⟩ := e2.cms
  simp only [Value.cells, List.cons.injEq, and_true, Value.slice.injEq] at i1
  obtain ⟨rfl, rfl, rfl⟩ := i1
  exact traceSame_core w A n c X g4 (Nat.le_trans g2 g3) B m d Y i4 (Nat.le_trans i2 i3)
end Go.Proofs.Yteinbdifncdaiaa
