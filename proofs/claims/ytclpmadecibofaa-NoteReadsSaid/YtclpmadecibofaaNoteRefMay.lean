/-
  gleanerref10: node, num, result, view.
-/
import Derived.Test.YtclpmadecibofaaNoteRefClear
import Derived.Test.YtclpmadecibofaaRefValid
import Derived.Test.YtclpmadecibofaaNoteLast
namespace Go.Proofs.Ytclpmadecibofaa
open Go.RowKit
set_option linter.unusedVariables false
set_option linter.unusedSimpArgs false

theorem refNode_any (x : Int) (w : World) : Calls Try.prog 42 #[.int .i64 x] w fun e w2 => e = .returned (.bool (upto 15 x)) ∧ w = w2 := by
  by_cases h0 : x < 0
  · have H := Lib.hid (show upto 15 x = false by unfold upto; rw [decide_eq_false (by omega)]; rfl)
    go_enter Try.func42, Try.ntmps42
    go_wp2_with fail
    go_ret
    exact ⟨by rw [H.out]; rfl, rfl⟩
  · have H := Lib.hid (show upto 15 x = decide (x < 16) by unfold upto; rw [decide_eq_true (show 0 ≤ x by omega), Bool.true_and, decide_eq_decide]; omega)
    go_enter Try.func42, Try.ntmps42
    go_wp2_with fail
    go_ret
    exact ⟨by rw [H.out]; rfl, rfl⟩

theorem refNum_any (x : Int) (w : World) : Calls Try.prog 43 #[.int .i64 x] w fun e w2 => e = .returned (.bool (upto 2147483647 x)) ∧ w = w2 := by
  by_cases h0 : x < 0
  · have H := Lib.hid (show upto 2147483647 x = false by unfold upto; rw [decide_eq_false (by omega)]; rfl)
    go_enter Try.func43, Try.ntmps43
    go_wp2_with fail
    go_ret
    exact ⟨by rw [H.out]; rfl, rfl⟩
  · have H := Lib.hid (show upto 2147483647 x = decide (x ≤ 2147483647) by unfold upto; rw [decide_eq_true (show 0 ≤ x by omega), Bool.true_and])
    go_enter Try.func43, Try.ntmps43
    go_wp2_with fail
    go_ret
    exact ⟨by rw [H.out]; rfl, rfl⟩

theorem refResult_any (w : World) (e v : Int) :
    Calls Try.prog 44 #[.agg #[.int .i64 e, .int .i64 v]] w fun x w2 => x = .returned (.bool (endB e v)) ∧ Chg Non w w2 := by
  obtain ⟨w1, hw1⟩ : ∃ w1, w.alloc (.cells #[.int .i64 e, .int .i64 v] 26) = w1 := ⟨_, rfl⟩
  have hC : Chg Non w w1 := hw1 ▸ (Chg.refl _ _).alloc _
  have hb : Blk w1 w.heap.size 26 #[.int .i64 e, .int .i64 v] := hw1 ▸ Blk.new _ _ _
  have c0 := hb.cell 0
  have c1 := hb.cell 1
  simp only [List.getElem?_toArray, List.getElem?_cons_zero, List.getElem?_cons_succ] at c0 c1
  have hcase : e = 0 ∨ e = 25 ∨ (e < 20 ∧ e ≠ 0) ∨ 25 < e ∨ (20 ≤ e ∧ e < 25) := by omega
  rcases hcase with h | h | ⟨h, h'⟩ | h | ⟨h, h'⟩
  · subst h
    have hE := Lib.hid (show endB 0 v = true from rfl)
    go_enter Try.func44, Try.ntmps44
    go_wp2_with fail
    go_ret
    exact ⟨by rw [hE.out]; rfl, hC⟩
  · subst h
    have hE := Lib.hid (show endB 25 v = true from rfl)
    go_enter Try.func44, Try.ntmps44
    go_wp2_with fail
    go_ret
    exact ⟨by rw [hE.out]; rfl, hC⟩
  · have t0 : (e == 0) = false := beq_eq_false_iff_ne.2 h'
    have t1 : (e == 25) = false := beq_eq_false_iff_ne.2 (by omega)
    have hE : endB e v = false := by unfold endB; rw [t0, t1, decide_eq_false (by omega)]; rfl
    have HE := Lib.hid hE
    clear hE
    go_enter Try.func44, Try.ntmps44
    go_wp2_with fail
    go_ret
    exact ⟨by rw [HE.out]; rfl, hC⟩
  · have t0 : (e == 0) = false := beq_eq_false_iff_ne.2 (by omega)
    have t1 : (e == 25) = false := beq_eq_false_iff_ne.2 (by omega)
    have hE : endB e v = false := by unfold endB; rw [t0, t1, decide_eq_true (show 20 ≤ e by omega), decide_eq_false (show ¬ e < 25 by omega)]; rfl
    have HE := Lib.hid hE
    clear hE
    go_enter Try.func44, Try.ntmps44
    go_wp2_with fail
    go_ret
    exact ⟨by rw [HE.out]; rfl, hC⟩
  · have t0 : (e == 0) = false := beq_eq_false_iff_ne.2 (by omega)
    have t1 : (e == 25) = false := beq_eq_false_iff_ne.2 (by omega)
    have hE : endB e v = (v == 0) := by unfold endB; rw [t0, t1, decide_eq_true h, decide_eq_true h']; rfl
    have HE := Lib.hid hE
    clear hE
    go_enter Try.func44, Try.ntmps44
    go_wp2_with fail
    go_ret
    exact ⟨by rw [HE.out]; rfl, hC⟩

set_option maxRecDepth 100000 in
set_option maxHeartbeats 2000000 in
theorem refView_any (w : World) (ep : Int) (A : Option Addr) (n c : Nat) (L : List Mb) (h1 : Rds w 2 A n (mv L)) (hn : n ≤ 9223372036854775807) :
    Calls Try.prog 45 #[.agg #[.int .i64 ep, .slice A n c]] w fun e w2 => e = .returned (.bool (upto great ep && viewB L)) ∧ Chg Non w w2 := by
  have Hnl := Lib.hid h1.lenM
  obtain ⟨w1, hw1⟩ : ∃ w1, w.alloc (.cells #[.int .i64 ep, .slice A n c] 29) = w1 := ⟨_, rfl⟩
  have hC1 : Chg Non w w1 := hw1 ▸ (Chg.refl _ _).alloc _
  have hb1 : Blk w1 w.heap.size 29 #[.int .i64 ep, .slice A n c] := hw1 ▸ Blk.new _ _ _
  have hr1 := h1.non hC1
  have x0 := hb1.cell 0
  have x1 := hb1.cell 1
  simp only [List.getElem?_toArray, List.getElem?_cons_zero, List.getElem?_cons_succ] at x0 x1
  clear h1
  go_enter Try.func45, Try.ntmps45
  go_wp2_with fail
  refine (refNum_any ep _).mono ?_
  rintro e w9 ⟨rfl, rfl⟩
  clear hw1
  cases he : upto 2147483647 ep with
  | false =>
    have Hno : Hid ((upto great ep && viewB L) = false) := by show _ = _; rw [show upto great ep = false from he]; rfl
    clear he
    go_wp2_with fail
    go_ret
    exact ⟨by rw [Hno.out]; rfl, hC1⟩
  | true =>
    have He : Hid (upto great ep = true) := he
    clear he
    by_cases h16 : 16 < n
    · have Hno : Hid ((upto great ep && viewB L) = false) := by show _ = _; unfold viewB; rw [show decide (L.length ≤ 16) = false from decide_eq_false (by have := Hnl.out; omega)]; simp
      go_wp2_with fail
      go_ret
      exact ⟨by rw [Hno.out]; rfl, hC1⟩
    · have Hr := Lib.hid hr1
      clear hr1 x0 x1
      have x1 := hb1.cell 1
      simp only [List.getElem?_toArray, List.getElem?_cons_zero, List.getElem?_cons_succ] at x1
      go_wp2_with fail
      clear x1
      go_loopw [3] (fun i wr => ∃ k : Nat, k ≤ n ∧ i = .int .i64 k ∧ Hid (memsB (-1) L = memsB (lastM L k) (L.drop k)) ∧ Chg Non w1 wr) (fun i _ => n - (intOf i).toNat)
      case atStart => exact ⟨0, Nat.zero_le _, rfl, rfl, Chg.refl _ _⟩
      case round =>
        obtain ⟨k, hk, rfl, hok, hCr⟩ := hrel
        have hbr := hb1.non hCr
        have x1 := hbr.cell 1
        simp only [List.getElem?_toArray, List.getElem?_cons_zero, List.getElem?_cons_succ] at x1
        by_cases hlt : k < n
        · obtain ⟨ad, m, rfl, hx, hc0, hc1⟩ := Hr.out.getM hlt
          have a0 := hCr.cell hc0 id
          have a1 := hCr.cell hc1 id
          have hst := memsB_drop hx (lastM L k)
          have hls := lastM_succ hx
          obtain ⟨w2, hw2⟩ : ∃ w9, wr.alloc (.cells #[.int .i64 m.1, .int .i64 m.2] 50) = w9 := ⟨_, rfl⟩
          have hc2 : Chg Non wr w2 := hw2 ▸ (Chg.refl _ _).alloc _
          have hb2 : Blk w2 wr.heap.size 50 #[.int .i64 m.1, .int .i64 m.2] := hw2 ▸ Blk.new _ _ _
          have hC2 := hCr.non hc2
          have hCw := hC1.non hC2
          have hCx := hC2
          have b0 := hb2.cell 0
          have b1 := hb2.cell 1
          simp only [List.getElem?_toArray, List.getElem?_cons_zero, List.getElem?_cons_succ] at b0 b1
          have hbv := hbr.non hc2
          have v1 := hbv.cell 1
          simp only [List.getElem?_toArray, List.getElem?_cons_zero, List.getElem?_cons_succ] at v1
          have hno : memsB (-1) L = false → Hid ((upto great ep && viewB L) = false) := fun h => by show _ = _; unfold viewB; rw [h]; simp
          have Hst := Lib.hid hst
          have Hls := Lib.hid hls
          have Hx := Lib.hid hx
          have hc9 := hc2
          clear hst hls hx hc2 hC2 hb2 hbv hbr
          cases t1 : upto 15 m.1 with
          | false =>
            have Hno := hno (by rw [hok.out, Hst.out, t1]; simp)
            clear hno
            go_wp2_with fail
            go_quiet (first | (go_at_call 42; exact quietW (refNode_any m.1 _)) | (go_at_call 43; exact quietW (refNum_any m.2 _)))
            go_wp2_with fail
            go_ret
            exact ⟨by rw [Hno.out]; rfl, hCw.drewN _⟩
          | true =>
            cases t2 : upto 2147483647 m.2 with
            | false =>
              have Hno := hno (by rw [hok.out, Hst.out, show upto great m.2 = false from t2]; simp)
              clear hno
              go_wp2_with fail
              go_quiet (first | (go_at_call 42; exact quietW (refNode_any m.1 _)) | (go_at_call 43; exact quietW (refNum_any m.2 _)))
              go_wp2_with fail
              go_ret
              exact ⟨by rw [Hno.out]; rfl, hCw.drewN _⟩
            | true =>
              have ht1 := upto_iff.1 t1
              rcases k with _ | j
              · have hyes : Hid (memsB (-1) L = memsB (lastM L (0 + 1)) (L.drop (0 + 1))) := by
                  show _ = _
                  rw [hok.out, Hst.out, t1, show upto great m.2 = true from t2, Hls.out, show decide (lastM L 0 < m.1) = true from decide_eq_true (by show -1 < m.1; omega)]
                  simp
                rw [Nat.zero_mul, addr_add0] at a0 a1
                clear hno hok Hst
                go_wp2_with fail
                go_quiet (first | (go_at_call 42; exact quietW (refNode_any m.1 _)) | (go_at_call 43; exact quietW (refNum_any m.2 _)))
                go_wp2_with fail
                go_roundw
                case rel => exact ⟨0 + 1, by omega, by go_num, hyes, hCx.drewN _⟩
                case measure => simp [intOf]; omega
              · obtain ⟨ad2, m2, e2, hx2, hd0, hd1⟩ := Hr.out.getM (k := j) (by omega)
                cases e2
                have hlast : lastM L (j + 1) = m2.1 := lastM_succ hx2
                have d0 := hc9.cell (hCr.cell hd0 id) id
                have hs1 : IntKind.i64.wrap (((j + 1 : Nat) : Int) - 1) = (j : Int) := by rw [IntKind.wrap_i64]; omega
                clear hx2 hd0 hd1
                by_cases hord : m2.1 < m.1
                · have hyes : Hid (memsB (-1) L = memsB (lastM L (j + 1 + 1)) (L.drop (j + 1 + 1))) := by
                    show _ = _
                    rw [hok.out, Hst.out, t1, show upto great m.2 = true from t2, Hls.out, hlast, decide_eq_true hord]
                    simp
                  clear hno hok Hst hlast
                  go_wp2_with fail
                  go_quiet (first | (go_at_call 42; exact quietW (refNode_any m.1 _)) | (go_at_call 43; exact quietW (refNum_any m.2 _)))
                  go_wp2_with fail
                  go_roundw
                  case rel => exact ⟨j + 1 + 1, by omega, by go_num, hyes, hCx.drewN _⟩
                  case measure => simp [intOf]; omega
                · have Hno := hno (by rw [hok.out, Hst.out, hlast, decide_eq_false hord]; rfl)
                  clear hno hlast
                  go_wp2_with fail
                  go_quiet (first | (go_at_call 42; exact quietW (refNode_any m.1 _)) | (go_at_call 43; exact quietW (refNum_any m.2 _)))
                  go_wp2_with fail
                  go_ret
                  exact ⟨by rw [Hno.out]; rfl, hCw.drewN _⟩
        · obtain rfl : k = n := by omega
          have hyes : Hid ((upto great ep && viewB L) = true) := by
            show _ = _
            have hz : L.drop k = [] := List.drop_of_length_le (by have := Hnl.out; omega)
            have hall : memsB (-1) L = true := by rw [hok.out, hz]; rfl
            unfold viewB
            rw [He.out, hall, decide_eq_true (by have := Hnl.out; omega)]
            rfl
          have hCw := hC1.non hCr
          clear hok
          go_wp2_with fail
          go_ret
          exact ⟨by rw [hyes.out]; rfl, hCw⟩
end Go.Proofs.Ytclpmadecibofaa
