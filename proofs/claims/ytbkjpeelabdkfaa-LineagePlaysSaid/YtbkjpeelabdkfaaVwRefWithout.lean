/-
  gleanerref14.Without.
-/
import Derived.Test.YtbkjpeelabdkfaaVwRefMay
import Derived.Test.YtbkjpeelabdkfaaVwRefFirst
namespace Go.Proofs.Ytbkjpeelabdkfaa
open Go.RowKit
set_option linter.unusedVariables false
set_option linter.unusedSimpArgs false

def withoutE (ep : Int) (L : List Mb) (N : List Int) : Int := if badB ep L N then 1 else if ep = 2147483647 then 16 else 0
def withoutV (ep : Int) (L : List Mb) (N : List Int) : Int × List Mb := if withoutE ep L N = 0 then (ep + 1, kept (fun m => inI N m.1) L) else (0, [])
/-- What Without is asked: whose answer is which. -/
theorem withoutE_cases (ep : Int) (L : List Mb) (N : List Int) : (mayB ep L = false ∧ withoutE ep L N = 1) ∨ (mayB ep L = true ∧ N = [] ∧ withoutE ep L N = 1) ∨ (mayB ep L = true ∧ N ≠ [] ∧ (N.any (outB L) = true → withoutE ep L N = 1) ∧ (N.any (outB L) = false → ep = 2147483647 → withoutE ep L N = 16) ∧ (N.any (outB L) = false → ep ≠ 2147483647 → withoutE ep L N = 0)) := by
  unfold withoutE badB
  cases mayB ep L with
  | false => exact .inl ⟨rfl, by simp⟩
  | true =>
    cases N with
    | nil => exact .inr (.inl ⟨rfl, rfl, by simp⟩)
    | cons x N =>
      refine .inr (.inr ⟨rfl, by simp, fun h => by simp [h], fun h h2 => ?_, fun h h2 => ?_⟩)
      · rw [h]; simp [h2]
      · rw [h]; simp [h2]

set_option maxRecDepth 100000 in
set_option maxHeartbeats 8000000 in
theorem refWithout_any (w : World) (ep : Int) (A : Option Addr) (n c : Nat) (L : List Mb) (B : Option Addr) (m d : Nat) (N : List Int) (h1 : Rds w 2 A n (mv L)) (hn : n ≤ 1099511627776) (h2 : Rds w 1 B m (iv N)) (hm : m ≤ 9223372036854775807) :
    Calls Try.prog 13 #[.agg #[.int .i64 ep, .slice A n c], .slice B m d] w (VwR w (withoutV ep L N).1 (withoutV ep L N).2 (withoutE ep L N)) := by
  obtain ⟨w1, hw1⟩ : ∃ w1, (w.alloc (.cells #[.int .i64 ep, .slice A n c] 34)).alloc (.cells #[.int .i64 0, .slice none 0 0] 34) = w1 := ⟨_, rfl⟩
  have hC : Chg Non w w1 := hw1 ▸ ((Chg.refl _ _).alloc _).alloc _
  have hbV : Blk w1 w.heap.size 34 #[.int .i64 ep, .slice A n c] := hw1 ▸ (Blk.new w _ _).alloc _
  have hbR : Blk w1 (w.heap.size + 1) 34 #[.int .i64 0, .slice none 0 0] := by
    have := Blk.new (w.alloc (.cells #[.int .i64 ep, .slice A n c] 34)) 34 #[.int .i64 0, .slice none 0 0]
    rw [hw1, World.size_alloc] at this
    exact this
  have h1' := h1.non hC
  have h2' := Lib.hid (h2.non hC)
  have H1 := Lib.hid h1'
  have Hll := Lib.hid (mv_len h1)
  have Hml := Lib.hid h2.lenMap
  have hw1s : w.heap.size + 2 ≤ w1.heap.size := by rw [← hw1]; simp
  have hA : ∀ ad, A = some ad → 0 < n → ad.block < w.heap.size := fun ad e h => by
    obtain ⟨ad2, m2, e2, _, h3, _⟩ := h1.getM h
    rw [e] at e2
    obtain rfl := Option.some.inj e2
    exact World.block_lt_of_cell? w _ h3
  have hB0 : ∀ ad, B = some ad → 0 < m → ad.block < w.heap.size := fun ad e h => by
    obtain ⟨ad2, m2, e2, _, h3⟩ := h2.getI h
    rw [e] at e2
    obtain rfl := Option.some.inj e2
    have h4 := World.block_lt_of_cell? w _ h3
    exact h4
  have v0 := hbV.cell 0
  have v1 := hbV.cell 1
  simp only [List.getElem?_toArray, List.getElem?_cons_zero, List.getElem?_cons_succ] at v0 v1
  clear h1 h2
  rcases withoutE_cases ep L N with ⟨hy, hr⟩ | ⟨hy, hN, hr⟩ | ⟨hy, hN, q1, q2, q3⟩
  · as_aux_lemma =>
      have hv : withoutV ep L N = (0, []) := by unfold withoutV; rw [hr]; rfl
      rw [hv, hr]
      clear hv hr
      have Hy := Lib.hid hy
      clear hy
      go_enter Try.func13, Try.ntmps13
      go_wp2_with fail
      refine (refMay_any _ ep A n c L h1' (by omega)).mono ?_
      rintro e w9 ⟨rfl, hc9⟩
      rw [Hy.out]
      try clear hw1
      replace hC := hC.non hc9
      replace hbV := hbV.non hc9
      replace hbR := hbR.non hc9
      have hw9s : w.heap.size + 2 ≤ w9.heap.size := Nat.le_trans hw1s hc9.size
      clear v0 v1
      have v0 := hbV.cell 0
      have v1 := hbV.cell 1
      simp only [List.getElem?_toArray, List.getElem?_cons_zero, List.getElem?_cons_succ] at v0 v1
      clear h1' hc9 hbV
      have d0 := hbR.cell 0
      have d1 := hbR.cell 1
      have e0 := hbR.frozen 0
      have e1 := hbR.frozen 1
      simp only [List.getElem?_toArray, List.getElem?_cons_zero, List.getElem?_cons_succ] at d0 d1
      have hb4 := (hbR.put 0 (.int .i64 0)).put 1 (.slice none 0 0)
      simp only [List.setIfInBounds_toArray, List.set_cons_succ, List.set_cons_zero] at hb4
      have r0 := hb4.cell 0
      have r1 := hb4.cell 1
      simp only [List.getElem?_toArray, List.getElem?_cons_zero, List.getElem?_cons_succ] at r0 r1
      have hC4 := Lib.hid (VwR.no (x := 1) ((hC.setCell (p := ⟨w.heap.size + 1, 0, none⟩) (.inr (by simp)) (.int .i64 0)).setCell (p := ⟨w.heap.size + 1, 1, none⟩) (.inr (by simp)) (.slice none 0 0)))
      clear hb4
      go_wp2_with fail
      exact bodyPost_ret (v := .tuple #[.agg #[.int .i64 0, .slice none 0 0], .int .i64 1]) (by simp [results, Try.results13, go_sem, r0, r1]) rfl hC4.out
  · as_aux_lemma =>
      have hv : withoutV ep L N = (0, []) := by unfold withoutV; rw [hr]; rfl
      have hm0 : m = 0 := by rw [hN] at Hml; exact Hml.out
      subst hm0
      rw [hv, hr]
      clear hv hr
      have Hy := Lib.hid hy
      clear hy
      go_enter Try.func13, Try.ntmps13
      go_wp2_with fail
      refine (refMay_any _ ep A n c L h1' (by omega)).mono ?_
      rintro e w9 ⟨rfl, hc9⟩
      rw [Hy.out]
      try clear hw1
      replace hC := hC.non hc9
      replace hbV := hbV.non hc9
      replace hbR := hbR.non hc9
      have hw9s : w.heap.size + 2 ≤ w9.heap.size := Nat.le_trans hw1s hc9.size
      clear v0 v1
      have v0 := hbV.cell 0
      have v1 := hbV.cell 1
      simp only [List.getElem?_toArray, List.getElem?_cons_zero, List.getElem?_cons_succ] at v0 v1
      clear h1' hc9 hbV
      have d0 := hbR.cell 0
      have d1 := hbR.cell 1
      have e0 := hbR.frozen 0
      have e1 := hbR.frozen 1
      simp only [List.getElem?_toArray, List.getElem?_cons_zero, List.getElem?_cons_succ] at d0 d1
      have hb4 := (hbR.put 0 (.int .i64 0)).put 1 (.slice none 0 0)
      simp only [List.setIfInBounds_toArray, List.set_cons_succ, List.set_cons_zero] at hb4
      have r0 := hb4.cell 0
      have r1 := hb4.cell 1
      simp only [List.getElem?_toArray, List.getElem?_cons_zero, List.getElem?_cons_succ] at r0 r1
      have hC4 := Lib.hid (VwR.no (x := 1) ((hC.setCell (p := ⟨w.heap.size + 1, 0, none⟩) (.inr (by simp)) (.int .i64 0)).setCell (p := ⟨w.heap.size + 1, 1, none⟩) (.inr (by simp)) (.slice none 0 0)))
      clear hb4
      go_wp2_with fail
      exact bodyPost_ret (v := .tuple #[.agg #[.int .i64 0, .slice none 0 0], .int .i64 1]) (by simp [results, Try.results13, go_sem, r0, r1]) rfl hC4.out
  · as_aux_lemma =>
      have hm0 : ((m : Int) == 0) = false := by
        rw [beq_eq_false_iff_ne]
        intro h
        have h : m = 0 := by omega
        rw [h] at Hml
        exact hN (List.eq_nil_of_length_eq_zero Hml.out.symm)
      have hmp : 0 < m := by
        rw [beq_eq_false_iff_ne] at hm0
        omega
      have Q1 := Lib.hid q1
      have Q2 := Lib.hid q2
      have Q3 := Lib.hid q3
      clear hN q1 q2 q3
      have Hy := Lib.hid hy
      clear hy
      go_enter Try.func13, Try.ntmps13
      go_wp2_with fail
      refine (refMay_any _ ep A n c L h1' (by omega)).mono ?_
      rintro e w9 ⟨rfl, hc9⟩
      rw [Hy.out]
      try clear hw1
      replace hC := hC.non hc9
      replace hbV := hbV.non hc9
      replace hbR := hbR.non hc9
      have hw9s : w.heap.size + 2 ≤ w9.heap.size := Nat.le_trans hw1s hc9.size
      clear v0 v1
      have v0 := hbV.cell 0
      have v1 := hbV.cell 1
      simp only [List.getElem?_toArray, List.getElem?_cons_zero, List.getElem?_cons_succ] at v0 v1
      have H2 := Lib.hid (h2'.out.non hc9)
      have H1 := Lib.hid (h1'.non hc9)
      clear h1' h2'
      clear hc9
      go_wp2_with fail
      clear v0 v1
      go_loopw [7] (fun i wr => ∃ k : Nat, k ≤ m ∧ i = .int .i64 k ∧ Hid ((N.take k).any (outB L) = false) ∧ Chg Non w9 wr) (fun i _ => m - (intOf i).toNat)
      case atStart => exact ⟨0, Nat.zero_le _, rfl, rfl, Chg.refl _ _⟩
      case round =>
        obtain ⟨k, hk, rfl, hno, hCr⟩ := hrel
        have hbVr := hbV.non hCr
        have hbRr := hbR.non hCr
        have hC3 := hC.non hCr
        have v0 := hbVr.cell 0
        have v1 := hbVr.cell 1
        simp only [List.getElem?_toArray, List.getElem?_cons_zero, List.getElem?_cons_succ] at v0 v1
        by_cases hlt : k < m
        · obtain ⟨ad, x, rfl, hx, hcx⟩ := H2.out.getI hlt
          have a0 := hCr.cell hcx id
          have al := World.block_lt_of_cell? wr _ a0
          have hst := any_step (p := outB L) hx
          rw [hno.out] at hst
          have hat : outB L x = true → N.any (outB L) = true := fun h => any_at hx h
          have ka : ∀ wx, Chg Non wr wx → wx.cell? (ad.add k) = some (.int .i64 x) := fun wx h => h.cell a0 id
          have kv0 : ∀ wx, Chg Non wr wx → wx.cell? ⟨w.heap.size, 0, none⟩ = some (.int .i64 ep) := fun wx h => h.cell v0 id
          have kv1 : ∀ wx, Chg Non wr wx → wx.cell? ⟨w.heap.size, 1, none⟩ = some (.slice A n c) := fun wx h => h.cell v1 id
          have hvl := hbVr.lt
          have hcm := fun wx (h : Chg Non wr wx) => refMember_any wx ep A n c L x ((H1.out.non hCr).non h) (by omega)
          clear hx hcx hno
          go_wp2_with fail
          refine st_region 8 Non [5] [] (fun _ _ _ _ => True) (fun _ _ _ _ => True) (fun _ _ v => v = .bool (hasN L x)) (fun _ => True) (by kernel_rfl) (by kernel_rfl) (fun _ h => h.elim) trivial (fun _ _ _ => trivial) ?_
          repeat (first | (refine st_pass (by rfl) ?_; simp only [Act.put, List.setIfInBounds_toArray, List.set_cons_succ, List.set_cons_zero]) | (refine st_plain (Non) (wr) rfl rfl (f := ?_) (by rfl) rfl rfl (fun w hC hG => ?_) ?_; rotate_left; (clear hG; first | (go_simp; done) | (go_simp; with_reducible rfl) | (simp [*, go_sem, ↓IntWalk.iteOmega]; done) | (simp [*, go_sem, ↓IntWalk.iteOmega]; with_reducible rfl)); simp only [Act.put, List.setIfInBounds_toArray, List.set_cons_succ, List.set_cons_zero]))
          refine st_major (Non) (wr) rfl rfl (by rfl) rfl (⟨_, rfl⟩) (fun _ _ _ _ _ _ => trivial) (fun _ _ _ _ => trivial) (fun w hC hG hS => settle_of (r2 := ?_) ?_ ?_) ?_
          rotate_left
          (first | (go_simp; done) | (go_simp; rfl))
          · refine settle_enter ((hcm _ hC).mono ?_)
            rintro e w6 ⟨rfl, hc6⟩
            exact ⟨_, rfl, rfl, hc6, trivial, trivial⟩
          · rintro v4 rfl
            simp only [Act.put, List.setIfInBounds_toArray, List.set_cons_succ, List.set_cons_zero]
            repeat (first | (refine st_pass (by rfl) ?_; simp only [Act.put, List.setIfInBounds_toArray, List.set_cons_succ, List.set_cons_zero]) | (refine st_plain (Non) (wr) rfl rfl (f := ?_) (by rfl) rfl rfl (fun w hC hG => ?_) ?_; rotate_left; (clear hG; first | (go_simp; done) | (go_simp; with_reducible rfl) | (simp [*, go_sem, ↓IntWalk.iteOmega]; done) | (simp [*, go_sem, ↓IntWalk.iteOmega]; with_reducible rfl)); simp only [Act.put, List.setIfInBounds_toArray, List.set_cons_succ, List.set_cons_zero]))
            refine st_end Non wr rfl rfl (fun w5 hC5 _ hG => ?_)
            clear hG kv0 kv1 v0 v1 a0
            have a5 := ka w5 hC5
            have hbR5 := hbRr.non hC5
            have hC6 := hC3.non hC5
            have hC7 := hCr.non hC5
            clear ka hcm hbVr hbRr hC5
            have al5 := World.block_lt_of_cell? w5 _ a5
            cases hh : hasN L x with
            | false =>
                have hN := hat (by unfold outB; rw [hh]; simp)
                have hE := Q1.out hN
                have HV : Hid (withoutV ep L N = (0, [])) := by show _ = _; unfold withoutV; rw [hE]; rfl
                have HE := Lib.hid hE
                clear hE hN hat hst hh Q1 Q2 Q3 hm0
                have d0 := hbR5.cell 0
                have d1 := hbR5.cell 1
                have e0 := hbR5.frozen 0
                have e1 := hbR5.frozen 1
                simp only [List.getElem?_toArray, List.getElem?_cons_zero, List.getElem?_cons_succ] at d0 d1
                have hb4 := (hbR5.put 0 (.int .i64 0)).put 1 (.slice none 0 0)
                simp only [List.setIfInBounds_toArray, List.set_cons_succ, List.set_cons_zero] at hb4
                have r0 := hb4.cell 0
                have r1 := hb4.cell 1
                simp only [List.getElem?_toArray, List.getElem?_cons_zero, List.getElem?_cons_succ] at r0 r1
                have hC4 := Lib.hid (VwR.no (x := 1) ((hC6.setCell (p := ⟨w.heap.size + 1, 0, none⟩) (.inr (by simp)) (.int .i64 0)).setCell (p := ⟨w.heap.size + 1, 1, none⟩) (.inr (by simp)) (.slice none 0 0)))
                clear hb4
                go_wp2_with fail
                exact bodyPost_ret (v := .tuple #[.agg #[.int .i64 0, .slice none 0 0], .int .i64 1]) (by simp [results, Try.results13, go_sem, r0, r1]) rfl (by rw [HV.out, HE.out]; exact hC4.out)
              | true =>
                by_cases hx0 : x = 0
                · have t0 : (x == 0) = true := by rw [hx0]; rfl
                  have hN := hat (by unfold outB; rw [t0]; rfl)
                  have hE := Q1.out hN
                  have HV : Hid (withoutV ep L N = (0, [])) := by show _ = _; unfold withoutV; rw [hE]; rfl
                  have HE := Lib.hid hE
                  clear hE hN hat hst hh Q1 Q2 Q3 hm0
                  have d0 := hbR5.cell 0
                  have d1 := hbR5.cell 1
                  have e0 := hbR5.frozen 0
                  have e1 := hbR5.frozen 1
                  simp only [List.getElem?_toArray, List.getElem?_cons_zero, List.getElem?_cons_succ] at d0 d1
                  have hb4 := (hbR5.put 0 (.int .i64 0)).put 1 (.slice none 0 0)
                  simp only [List.setIfInBounds_toArray, List.set_cons_succ, List.set_cons_zero] at hb4
                  have r0 := hb4.cell 0
                  have r1 := hb4.cell 1
                  simp only [List.getElem?_toArray, List.getElem?_cons_zero, List.getElem?_cons_succ] at r0 r1
                  have hC4 := Lib.hid (VwR.no (x := 1) ((hC6.setCell (p := ⟨w.heap.size + 1, 0, none⟩) (.inr (by simp)) (.int .i64 0)).setCell (p := ⟨w.heap.size + 1, 1, none⟩) (.inr (by simp)) (.slice none 0 0)))
                  clear hb4
                  go_wp2_with fail
                  exact bodyPost_ret (v := .tuple #[.agg #[.int .i64 0, .slice none 0 0], .int .i64 1]) (by simp [results, Try.results13, go_sem, r0, r1]) rfl (by rw [HV.out, HE.out]; exact hC4.out)
                · have t0 : (x == 0) = false := beq_eq_false_iff_ne.2 hx0
                  have Hst : Hid ((N.take (k + 1)).any (outB L) = false) := by
                    show _ = _
                    rw [hst]
                    unfold outB
                    rw [t0, hh]
                    rfl
                  clear hst hat hh
                  go_wp2_with fail
                  go_roundw
                  case rel => exact ⟨k + 1, by omega, by go_num, Hst, hC7⟩
                  case measure => simp [intOf]; omega
        · have hNo : N.any (outB L) = false := by have h9 := hno.out; rw [List.take_of_length_le (by have := Hml.out; omega)] at h9; exact h9
          clear hno
          by_cases hep : ep = 2147483647
          · subst hep
            have hE := Q2.out hNo rfl
            have HV : Hid (withoutV 2147483647 L N = (0, [])) := by show _ = _; unfold withoutV; rw [hE]; rfl
            have HE := Lib.hid hE
            clear hE hNo Q1 Q2 Q3 hm0
            have d0 := hbRr.cell 0
            have d1 := hbRr.cell 1
            have e0 := hbRr.frozen 0
            have e1 := hbRr.frozen 1
            simp only [List.getElem?_toArray, List.getElem?_cons_zero, List.getElem?_cons_succ] at d0 d1
            have hb4 := (hbRr.put 0 (.int .i64 0)).put 1 (.slice none 0 0)
            simp only [List.setIfInBounds_toArray, List.set_cons_succ, List.set_cons_zero] at hb4
            have r0 := hb4.cell 0
            have r1 := hb4.cell 1
            simp only [List.getElem?_toArray, List.getElem?_cons_zero, List.getElem?_cons_succ] at r0 r1
            have hC4 := Lib.hid (VwR.no (x := 16) ((hC3.setCell (p := ⟨w.heap.size + 1, 0, none⟩) (.inr (by simp)) (.int .i64 0)).setCell (p := ⟨w.heap.size + 1, 1, none⟩) (.inr (by simp)) (.slice none 0 0)))
            clear hb4
            go_wp2_with fail
            exact bodyPost_ret (v := .tuple #[.agg #[.int .i64 0, .slice none 0 0], .int .i64 16]) (by simp [results, Try.results13, go_sem, r0, r1]) rfl (by rw [HV.out, HE.out]; exact hC4.out)
          · have hE := Q3.out hNo hep
            have HV : Hid (withoutV ep L N = (ep + 1, kept (fun m => inI N m.1) L)) := by show _ = _; unfold withoutV; rw [hE]; rfl
            have HE := Lib.hid hE
            have hep2 : (ep == 2147483647) = false := beq_eq_false_iff_ne.2 hep
            have hmc := may_count Hy.out
            have hwr : IntKind.i64.wrap (ep + 1) = ep + 1 := by rw [IntKind.wrap_i64]; omega
            have hwrs : w.heap.size + 2 ≤ wr.heap.size := Nat.le_trans hw9s hCr.size
            have Hep := Lib.hid hep
            clear hE hNo Q1 Q2 Q3 hm0 hep
            go_wp2_with fail
            obtain ⟨w3, hw3⟩ : ∃ w3, wr.alloc (.cells #[.int .i64 (ep + 1), .slice none 0 0] 34) = w3 := ⟨_, rfl⟩
            have hbO : Blk w3 wr.heap.size 34 #[.int .i64 (ep + 1), .slice none 0 0] := hw3 ▸ Blk.new _ _ _
            have hc3 : Chg Non wr w3 := hw3 ▸ (Chg.refl _ _).alloc _
            rw [hw3]
            have hbV3 := hbVr.non hc3
            have hbR3 := hbRr.non hc3
            have hC30 := hC3.non hc3
            have H13 := Lib.hid ((H1.out.non hCr).non hc3)
            have H23 := Lib.hid ((H2.out.non hCr).non hc3)
            obtain ⟨g, hg⟩ : ∃ g, wr.heap.size = g := ⟨_, rfl⟩
            rw [hg] at hbO hwrs ⊢
            obtain ⟨b0, hb0⟩ : ∃ b0, w.heap.size = b0 := ⟨_, rfl⟩
            rw [hb0] at hbV3 hbR3 hwrs hA hB0
            have hb0w : b0 ≤ w.heap.size := by omega
            have hb0w' : w.heap.size ≤ b0 := by omega
            rw [hb0]
            clear v0 v1 hbV hbR hbVr hbRr hC hC3 H1 H2 hw3 hc3 hg hb0 hCr hw9s hw1s
            go_loopw [10] (fun i wr => ∃ (k q : Nat) (A2 : Option Addr) (c2 : Nat), k ≤ n ∧ q ≤ k ∧ i = .int .i64 k ∧ Blk wr g 34 #[.int .i64 (ep + 1), .slice A2 q c2] ∧ Blk wr (b0 + 1) 34 #[.int .i64 0, .slice none 0 0] ∧ Blk wr b0 34 #[.int .i64 ep, .slice A n c] ∧ OwnR rkM wr b0 (.slice A2 q c2) q (mv (kept (fun m => inI N m.1) (L.take k))) ∧ Chg Non w wr ∧ Hid (Rds wr 2 A n (mv L)) ∧ Hid (Rds wr 1 B m (iv N))) (fun i _ => n - (intOf i).toNat)
            case atStart => exact ⟨0, 0, none, 0, Nat.zero_le _, Nat.le_refl _, rfl, hbO, hbR3, hbV3, OwnR.nil _ _ _, hC30, H13, H23⟩
            case round =>
              clear hbO hbR3 hbV3 hC30 H13 H23
              obtain ⟨k, q, A2, c2, hk, hq, rfl, hbO, hbR, hbV, hown, hC, H1, H2⟩ := hrel
              have v1 := hbV.cell 1
              simp only [List.getElem?_toArray, List.getElem?_cons_zero, List.getElem?_cons_succ] at v1
              by_cases hlt : k < n
              · obtain ⟨ad, x, rfl, hx, a0, a1⟩ := H1.out.getM hlt
                have hst := kept_step (p := fun m : Mb => inI N m.1) hx
                have hTa : ¬ (Value.slice A2 q c2).ownBlock = some ad.block := fun e => by have := hA ad rfl (by omega); have := (hown.lt e).1; omega
                have hci := refIn_any wr B m d N x.1 H2.out hm
                have al := World.block_lt_of_cell? wr _ a0
                have hvl := hbV.lt
                have hgl := hbO.lt
                clear hx
                go_wp2_with fail
                refine hci.mono ?_
                rintro e w5 ⟨rfl, rfl⟩
                clear hci
                cases hin : inI N x.1 with
                | true =>
                  have Hst : Hid (kept (fun m => inI N m.1) (L.take (k + 1)) = kept (fun m => inI N m.1) (L.take k)) := by show _ = _; rw [hst, if_pos hin]; simp
                  clear hst hin
                  go_wp2_with fail
                  go_roundw
                  case rel => exact ⟨k + 1, q, A2, c2, by omega, by omega, by go_num, hbO, hbR, hbV, by rw [Hst.out]; exact hown, hC, H1, H2⟩
                  case measure => simp [intOf]; omega
                | false =>
                  have Hst : Hid (kept (fun m => inI N m.1) (L.take (k + 1)) = kept (fun m => inI N m.1) (L.take k) ++ [x]) := by show _ = _; rw [hst, if_neg (by rw [hin]; exact Bool.false_ne_true)]
                  clear hst hin
                  generalize kept (fun m => inI N m.1) (L.take k) = M at hown Hst
                  go_wp2_with fail
                  have k1 : ∀ wx, Chg (fun b => (Value.slice A2 q c2).ownBlock = some b) wr wx → wx.cell? ⟨g, 1, none⟩ = some (.slice A2 q c2) := fun wx h => h.cell (hbO.cell 1) (fun e => hown.apart hbO (by decide) e)
                  have kv : ∀ wx, Chg (fun b => (Value.slice A2 q c2).ownBlock = some b) wr wx → wx.cell? ⟨b0, 1, none⟩ = some (.slice (some ad) n c) := fun wx h => h.cell (hbV.cell 1) (fun e => hown.apart hbV (by decide) e)
                  have ka : ∀ wx, Chg (fun b => (Value.slice A2 q c2).ownBlock = some b) wr wx → wx.cell? (ad.add (k * 2)) = some (.int .i64 x.1) := fun wx h => h.cell a0 (by rw [block_add]; exact hTa)
                  have kb : ∀ wx, Chg (fun b => (Value.slice A2 q c2).ownBlock = some b) wr wx → wx.cell? ⟨(ad.add (k * 2)).block, (ad.add (k * 2)).off + 1, none⟩ = some (.int .i64 x.2) := fun wx h => h.cell a1 (by rw [block_add]; exact hTa)
                  clear a0 a1 v1
                  refine st_region_tail 8 10 (fun b => (Value.slice A2 q c2).ownBlock = some b) [8] [7] (fun _ _ v w2 => OwnR rkM w2 b0 v (q + 1) (mv M ++ cellM x) ∧ (∀ b, v.ownBlock = some b → (Value.slice A2 q c2).ownBlock = some b ∨ wr.heap.size ≤ b)) (fun _ _ _ _ => True) (fun _ _ v => ∃ A n c, v = .slice A n c) (fun w2 => OwnR rkM w2 b0 (.slice A2 q c2) q (mv M)) (by kernel_rfl) (by kernel_rfl) (by kernel_rfl) (fun b h => (hown.lt h).2) hown (fun _ _ h => h.alloc _) ?_
                  repeat (first | (refine st_pass (by rfl) ?_; simp only [Act.put, List.setIfInBounds_toArray, List.set_cons_succ, List.set_cons_zero]) | (refine st_plain (fun b => (Value.slice A2 q c2).ownBlock = some b) (wr) rfl rfl (f := ?_) (by rfl) rfl rfl (fun w hC hG => ?_) ?_; rotate_left; (clear hG; first | (go_simp; done) | (go_simp; with_reducible rfl) | (simp [*, go_sem, ↓IntWalk.iteOmega]; done) | (simp [*, go_sem, ↓IntWalk.iteOmega]; with_reducible rfl)); simp only [Act.put, List.setIfInBounds_toArray, List.set_cons_succ, List.set_cons_zero]))
                  refine st_minor (fun b => (Value.slice A2 q c2).ownBlock = some b) wr rfl rfl (ob := .cells #[.int .i64 x.1, .int .i64 x.2] 68) (kd := some (1, 1)) (by rfl) rfl rfl (fun w hC hG => by clear hG; go_simp; rfl) (fun g2 => ?_)
                  simp only [Act.put, List.setIfInBounds_toArray, List.set_cons_succ, List.set_cons_zero]
                  refine st_major (fun b => (Value.slice A2 q c2).ownBlock = some b) (wr) rfl rfl (by rfl) rfl (⟨.slice none 0 0, none, 0, 0, rfl⟩) (fun _ _ _ _ _ _ => trivial) (fun v w ob h => ⟨h.1.alloc ob, h.2⟩) (fun w hC hG hS => ?_) ?_
                  · have hB := Rds.blockN (m := 1) (size := 2) (show Blk w g2 68 #[.int .i64 x.1, .int .i64 x.2] from (hG 7 rfl).2) rfl
                    refine settle_appR (K := rkM) (.tmp 70) (.tmp 76) rfl hS rfl hB rfl (cellM_one x) (by omega) (by have := hC.size; omega) ?_
                    intro v2 w2 i2 i3 i4
                    obtain ⟨A4, c4, rfl, _⟩ := i2.open_
                    refine ⟨⟨_, _, _, rfl⟩, i3, ⟨i2, fun b hb => ?_⟩, trivial⟩
                    rcases i4 with i4 | i4
                    · exact .inl (i4 ▸ hb)
                    · rw [i4] at hb
                      obtain rfl := Option.some.inj hb
                      exact .inr (by have := hC.size; omega)
                  · rintro v4 ⟨A4, n4, c4, rfl⟩
                    simp only [Act.put, List.setIfInBounds_toArray, List.set_cons_succ, List.set_cons_zero]
                    repeat (first | (refine st_pass (by rfl) ?_; simp only [Act.put, List.setIfInBounds_toArray, List.set_cons_succ, List.set_cons_zero]) | (refine st_plain (fun b => (Value.slice A2 q c2).ownBlock = some b) (wr) rfl rfl (f := ?_) (by rfl) rfl rfl (fun w hC hG => ?_) ?_; rotate_left; (clear hG; first | (go_simp; done) | (go_simp; with_reducible rfl) | (simp [*, go_sem, ↓IntWalk.iteOmega]; done) | (simp [*, go_sem, ↓IntWalk.iteOmega]; with_reducible rfl)); simp only [Act.put, List.setIfInBounds_toArray, List.set_cons_succ, List.set_cons_zero]))
                    refine st_tail (fun b => (Value.slice A2 q c2).ownBlock = some b) wr rfl rfl rfl (fun w7 hC7 hS7 _ => ?_)
                    simp only [List.drop_succ_cons, List.drop_zero]
                    obtain ⟨ho7, hob7⟩ := hS7
                    obtain ⟨A5, c5, hv5, _⟩ := ho7.open_
                    injection hv5 with e1 e2 e3
                    subst e1 e2 e3
                    have hbO7 := hbO.chg hC7 (fun e => hown.apart hbO (by decide) e)
                    have hbV7 := hbV.chg hC7 (fun e => hown.apart hbV (by decide) e)
                    have hbR7 := hbR.chg hC7 (fun e => hown.apart hbR (by decide) e)
                    have c17 : w7.cell? ⟨g, 1, none⟩ = some (.slice A2 q c2) := hbO7.cell 1
                    have f17 := hbO7.frozen 1
                    have H17 := H1.out.chg hC7 (fun ad2 e => by obtain rfl := Option.some.inj e; exact hTa)
                    have hB2 : ∀ ad2, B = some ad2 → ¬ (Value.slice A2 q c2).ownBlock = some ad2.block := fun ad2 e e2 => by have := hB0 ad2 e hmp; have := (hown.lt e2).1; omega
                    have H27 := H2.out.chg hC7 hB2
                    have hS : Chg (fun b => b = g) w7 (w7.setCell ⟨g, 1, none⟩ (.slice A4 (q + 1) c4)) := (Chg.refl _ _).set1 1 _
                    have hbO8 := hbO7.put 1 (.slice A4 (q + 1) c4)
                    simp only [List.setIfInBounds_toArray, List.set_cons_succ, List.set_cons_zero] at hbO8
                    have hbV8 := hbV7.chg hS (fun e => by have e : b0 = g := e; omega)
                    have hbR8 := hbR7.chg hS (fun e => by have e : b0 + 1 = g := e; omega)
                    have ho8 := ho7.chg hS (fun b hb e => ho7.apart hbO7 (by decide) (by rw [hb, show b = g from e]))
                    have H18 := Lib.hid (H17.chg hS (fun ad2 e e2 => by obtain rfl := Option.some.inj e; have := hA ad rfl (by omega); have e2 : ad.block = g := e2; omega))
                    have H28 := Lib.hid (H27.chg hS (fun ad2 e e2 => by have := hB0 ad2 e hmp; have e2 : ad2.block = g := e2; omega))
                    have hC70 : Chg Non w w7 := hC.trans2 hC7 (fun b e => .inr (by have := (hown.lt e).1; omega))
                    have hC80 := hC70.setCell (p := ⟨g, 1, none⟩) (.inr (by show w.heap.size ≤ g; omega)) (.slice A4 (q + 1) c4)
                    rw [← mv_snoc, ← Hst.out] at ho8
                    have Ho8 := Lib.hid ho8
                    clear ho8 ho7 hob7 hC7 k1 kv ka kb hown H17 H27 hbO hbV hbR hbV7 hbR7 hC70 hS hC H1 H2
                    go_wp2_with fail
                    go_roundw
                    case rel => exact ⟨k + 1, q + 1, A4, c4, by omega, by omega, by go_num, hbO8, hbR8, hbV8, Ho8.out, hC80, H18, H28⟩
                    case measure => simp [intOf]; omega
              · have hst : L.take k = L := List.take_of_length_le (by have := Hll.out; omega)
                rw [hst] at hown
                clear hst
                have c0 := hbO.cell 0
                have c1 := hbO.cell 1
                have d0 := hbR.cell 0
                have d1 := hbR.cell 1
                have e0 := hbR.frozen 0
                have e1 := hbR.frozen 1
                simp only [List.getElem?_toArray, List.getElem?_cons_zero, List.getElem?_cons_succ] at c0 c1 d0 d1
                have hb2 := (hbR.put 0 (.int .i64 (ep + 1))).put 1 (.slice A2 q c2)
                simp only [List.setIfInBounds_toArray, List.set_cons_succ, List.set_cons_zero] at hb2
                have r0 := hb2.cell 0
                have r1 := hb2.cell 1
                simp only [List.getElem?_toArray, List.getElem?_cons_zero, List.getElem?_cons_succ] at r0 r1
                have hS : Chg (fun b => b = b0 + 1) wr ((wr.setCell ⟨b0 + 1, 0, none⟩ (.int .i64 (ep + 1))).setCell ⟨b0 + 1, 1, none⟩ (.slice A2 q c2)) := ((Chg.refl _ _).set1 0 _).set1 1 _
                have hwin := (Win.of_own hown).chg hS (fun b hb e => hown.apart hbR (by decide) (by rw [hb, show b = b0 + 1 from e]))
                have hC2 := hC.trans2 hS (fun b e => .inr (by have e : b = b0 + 1 := e; omega))
                have hge := fun b (hb : (Value.slice A2 q c2).ownBlock = some b) => Nat.le_trans hb0w' (hown.lt hb).1
                have hfin : VwR w (ep + 1) (kept (fun m => inI N m.1) L) 0 (.returned (.tuple #[.agg #[.int .i64 (ep + 1), .slice A2 q c2], .int .i64 0])) _ := ⟨A2, q, c2, rfl, hwin, hge, hC2⟩
                have Hfin := Lib.hid hfin
                clear hown hbO hb2 hbV hbR hwin hC2 hge hfin
                go_wp2_with fail
                exact bodyPost_ret (v := .tuple #[.agg #[.int .i64 (ep + 1), .slice A2 q c2], .int .i64 0]) (by simp [results, Try.results13, go_sem, r0, r1]) rfl (by rw [HV.out, HE.out]; exact Hfin.out)
end Go.Proofs.Ytbkjpeelabdkfaa
