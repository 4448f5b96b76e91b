/-
  view.With.
-/
import Derived.Test.YtojlglkefiddnaaViewSort
import Derived.Test.YtojlglkefiddnaaViewIns
namespace Go.Proofs.Ytojlglkefiddnaa
open Go.RowKit
set_option linter.unusedVariables false
set_option linter.unusedSimpArgs false

set_option maxRecDepth 100000 in
set_option maxHeartbeats 2000000 in
theorem with_no (w : World) (ep : Int) (A : Option Addr) (n c : Nat) (L : List Mb) (x life : Int) (h1 : Rds w 2 A n (mv L)) (hn : n ≤ 1099511627776) (he : withE ep L x life ≠ 0) :
    Calls Try.prog 19 #[.agg #[.int .i64 ep, .slice A n c], .int .i64 x, .int .i64 life] w fun e w2 => e = .returned (.tuple #[.agg #[.int .i64 0, .slice none 0 0], .int .i64 (withE ep L x life)]) ∧ Chg Non w w2 := by
  obtain ⟨w1, hw1⟩ : ∃ w1, (w.alloc (.cells #[.int .i64 ep, .slice A n c] 26)).alloc (.cells #[.int .i64 0, .slice none 0 0] 26) = w1 := ⟨_, rfl⟩
  have hC : Chg Non w w1 := hw1 ▸ ((Chg.refl _ _).alloc _).alloc _
  have hbV : Blk w1 w.heap.size 26 #[.int .i64 ep, .slice A n c] := hw1 ▸ (Blk.new w _ _).alloc _
  have hbR : Blk w1 (w.heap.size + 1) 26 #[.int .i64 0, .slice none 0 0] := by
    have := Blk.new (w.alloc (.cells #[.int .i64 ep, .slice A n c] 26)) 26 #[.int .i64 0, .slice none 0 0]
    rw [hw1, World.size_alloc] at this
    exact this
  have h1' := h1.non hC
  have v0 := hbV.cell 0
  have v1 := hbV.cell 1
  have d0 := hbR.cell 0
  have d1 := hbR.cell 1
  have e0 := hbR.frozen 0
  have e1 := hbR.frozen 1
  have bl := hbR.lt
  simp only [List.getElem?_toArray, List.getElem?_cons_zero, List.getElem?_cons_succ] at v0 v1 d0 d1
  rcases withE_cases ep L x life with ⟨hy, hr⟩ | ⟨hy, ha, hr⟩ | ⟨hy, ha, hnn, hr⟩ | ⟨hy, ha, hnn, hl, hr⟩ | ⟨hy, ha, hnn, hl, hep, hr⟩ | ⟨hy, ha, hnn, hl, hep, hr⟩
  all_goals
    rw [hr] at he ⊢
    clear hr
  rotate_right
  · exact absurd rfl he
  all_goals clear he
  · as_aux_lemma =>
      have Hy := Lib.hid hy
      clear hy
      go_enter Try.func19, Try.ntmps19
      go_wp2_with fail
      refine (may_any _ ep A n c L h1' (by omega)).mono ?_
      rintro e w9 ⟨rfl, hc9⟩
      rw [Hy.out]
      try clear hw1
      replace hC := hC.non hc9
      replace hbV := hbV.non hc9
      replace hbR := hbR.non hc9
      replace h1' := h1'.non hc9
      clear v0 v1 d0 d1 e0 e1 bl hc9
      have v0 := hbV.cell 0
      have v1 := hbV.cell 1
      have d0 := hbR.cell 0
      have d1 := hbR.cell 1
      have e0 := hbR.frozen 0
      have e1 := hbR.frozen 1
      have bl := hbR.lt
      simp only [List.getElem?_toArray, List.getElem?_cons_zero, List.getElem?_cons_succ] at v0 v1 d0 d1
      have hb4 := (hbR.put 0 (.int .i64 0)).put 1 (.slice none 0 0)
      simp only [List.setIfInBounds_toArray, List.set_cons_succ, List.set_cons_zero] at hb4
      have r0 := hb4.cell 0
      have r1 := hb4.cell 1
      simp only [List.getElem?_toArray, List.getElem?_cons_zero, List.getElem?_cons_succ] at r0 r1
      have hC4 := (hC.setCell (p := ⟨w.heap.size + 1, 0, none⟩) (.inr (by simp)) (.int .i64 0)).setCell (p := ⟨w.heap.size + 1, 1, none⟩) (.inr (by simp)) (.slice none 0 0)
      clear hbV hbR hb4 hC h1'
      go_wp2_with fail
      exact bodyPost_ret (v := .tuple #[.agg #[.int .i64 0, .slice none 0 0], .int .i64 1]) (by simp [results, Try.results19, go_sem, r0, r1]) rfl ⟨rfl, hC4⟩
  · as_aux_lemma =>
      have Hy := Lib.hid hy
      have Ha := Lib.hid ha
      clear hy ha
      go_enter Try.func19, Try.ntmps19
      go_wp2_with fail
      refine (may_any _ ep A n c L h1' (by omega)).mono ?_
      rintro e w9 ⟨rfl, hc9⟩
      rw [Hy.out]
      try clear hw1
      replace hC := hC.non hc9
      replace hbV := hbV.non hc9
      replace hbR := hbR.non hc9
      replace h1' := h1'.non hc9
      clear v0 v1 d0 d1 e0 e1 bl hc9
      have v0 := hbV.cell 0
      have v1 := hbV.cell 1
      have d0 := hbR.cell 0
      have d1 := hbR.cell 1
      have e0 := hbR.frozen 0
      have e1 := hbR.frozen 1
      have bl := hbR.lt
      simp only [List.getElem?_toArray, List.getElem?_cons_zero, List.getElem?_cons_succ] at v0 v1 d0 d1
      go_wp2_with fail
      refine (viewAt_any _ ep A n c L x h1' (by omega)).mono ?_
      rintro e w9 ⟨rfl, hc9⟩
      obtain ⟨q, hq⟩ : ∃ q, fIdx L (fun m => m.1 == x) = q := ⟨_, rfl⟩
      have hqs : 0 ≤ q := by
        have h9 := fIdx_ge L (fun m => m.1 == x)
        rw [hq, show L.any (fun m => m.1 == x) = hasN L x from rfl, Ha.out] at h9
        exact of_decide_eq_true h9
      rw [hq]
      clear hq
      replace hC := hC.non hc9
      replace hbV := hbV.non hc9
      replace hbR := hbR.non hc9
      replace h1' := h1'.non hc9
      clear v0 v1 d0 d1 e0 e1 bl hc9
      have v0 := hbV.cell 0
      have v1 := hbV.cell 1
      have d0 := hbR.cell 0
      have d1 := hbR.cell 1
      have e0 := hbR.frozen 0
      have e1 := hbR.frozen 1
      have bl := hbR.lt
      simp only [List.getElem?_toArray, List.getElem?_cons_zero, List.getElem?_cons_succ] at v0 v1 d0 d1
      have hb4 := (hbR.put 0 (.int .i64 0)).put 1 (.slice none 0 0)
      simp only [List.setIfInBounds_toArray, List.set_cons_succ, List.set_cons_zero] at hb4
      have r0 := hb4.cell 0
      have r1 := hb4.cell 1
      simp only [List.getElem?_toArray, List.getElem?_cons_zero, List.getElem?_cons_succ] at r0 r1
      have hC4 := (hC.setCell (p := ⟨w.heap.size + 1, 0, none⟩) (.inr (by simp)) (.int .i64 0)).setCell (p := ⟨w.heap.size + 1, 1, none⟩) (.inr (by simp)) (.slice none 0 0)
      clear hbV hbR hb4 hC h1'
      go_wp2_with fail
      exact bodyPost_ret (v := .tuple #[.agg #[.int .i64 0, .slice none 0 0], .int .i64 1]) (by simp [results, Try.results19, go_sem, r0, r1]) rfl ⟨rfl, hC4⟩
  · as_aux_lemma =>
      have Hy := Lib.hid hy
      have Ha := Lib.hid ha
      have Hn := Lib.hid hnn
      clear hy ha hnn
      go_enter Try.func19, Try.ntmps19
      go_wp2_with fail
      refine (may_any _ ep A n c L h1' (by omega)).mono ?_
      rintro e w9 ⟨rfl, hc9⟩
      rw [Hy.out]
      try clear hw1
      replace hC := hC.non hc9
      replace hbV := hbV.non hc9
      replace hbR := hbR.non hc9
      replace h1' := h1'.non hc9
      clear v0 v1 d0 d1 e0 e1 bl hc9
      have v0 := hbV.cell 0
      have v1 := hbV.cell 1
      have d0 := hbR.cell 0
      have d1 := hbR.cell 1
      have e0 := hbR.frozen 0
      have e1 := hbR.frozen 1
      have bl := hbR.lt
      simp only [List.getElem?_toArray, List.getElem?_cons_zero, List.getElem?_cons_succ] at v0 v1 d0 d1
      go_wp2_with fail
      refine (viewAt_any _ ep A n c L x h1' (by omega)).mono ?_
      rintro e w9 ⟨rfl, hc9⟩
      obtain ⟨q, hq⟩ : ∃ q, fIdx L (fun m => m.1 == x) = q := ⟨_, rfl⟩
      have hqs : q < 0 := by
        have h9 := fIdx_ge L (fun m => m.1 == x)
        rw [hq, show L.any (fun m => m.1 == x) = hasN L x from rfl, Ha.out] at h9
        exact Int.not_le.1 (of_decide_eq_false h9)
      rw [hq]
      clear hq
      replace hC := hC.non hc9
      replace hbV := hbV.non hc9
      replace hbR := hbR.non hc9
      replace h1' := h1'.non hc9
      clear v0 v1 d0 d1 e0 e1 bl hc9
      have v0 := hbV.cell 0
      have v1 := hbV.cell 1
      have d0 := hbR.cell 0
      have d1 := hbR.cell 1
      have e0 := hbR.frozen 0
      have e1 := hbR.frozen 1
      have bl := hbR.lt
      simp only [List.getElem?_toArray, List.getElem?_cons_zero, List.getElem?_cons_succ] at v0 v1 d0 d1
      go_wp2_with fail
      refine (node_any x _).mono ?_
      rintro e w8 ⟨rfl, rfl⟩
      rw [Hn.out]
      have hb4 := (hbR.put 0 (.int .i64 0)).put 1 (.slice none 0 0)
      simp only [List.setIfInBounds_toArray, List.set_cons_succ, List.set_cons_zero] at hb4
      have r0 := hb4.cell 0
      have r1 := hb4.cell 1
      simp only [List.getElem?_toArray, List.getElem?_cons_zero, List.getElem?_cons_succ] at r0 r1
      have hC4 := (hC.setCell (p := ⟨w.heap.size + 1, 0, none⟩) (.inr (by simp)) (.int .i64 0)).setCell (p := ⟨w.heap.size + 1, 1, none⟩) (.inr (by simp)) (.slice none 0 0)
      clear hbV hbR hb4 hC h1'
      go_wp2_with fail
      exact bodyPost_ret (v := .tuple #[.agg #[.int .i64 0, .slice none 0 0], .int .i64 1]) (by simp [results, Try.results19, go_sem, r0, r1]) rfl ⟨rfl, hC4⟩
  · as_aux_lemma =>
      have Hy := Lib.hid hy
      have Ha := Lib.hid ha
      have Hn := Lib.hid hnn
      have Hl := Lib.hid hl
      clear hy ha hnn hl
      go_enter Try.func19, Try.ntmps19
      go_wp2_with fail
      refine (may_any _ ep A n c L h1' (by omega)).mono ?_
      rintro e w9 ⟨rfl, hc9⟩
      rw [Hy.out]
      try clear hw1
      replace hC := hC.non hc9
      replace hbV := hbV.non hc9
      replace hbR := hbR.non hc9
      replace h1' := h1'.non hc9
      clear v0 v1 d0 d1 e0 e1 bl hc9
      have v0 := hbV.cell 0
      have v1 := hbV.cell 1
      have d0 := hbR.cell 0
      have d1 := hbR.cell 1
      have e0 := hbR.frozen 0
      have e1 := hbR.frozen 1
      have bl := hbR.lt
      simp only [List.getElem?_toArray, List.getElem?_cons_zero, List.getElem?_cons_succ] at v0 v1 d0 d1
      go_wp2_with fail
      refine (viewAt_any _ ep A n c L x h1' (by omega)).mono ?_
      rintro e w9 ⟨rfl, hc9⟩
      obtain ⟨q, hq⟩ : ∃ q, fIdx L (fun m => m.1 == x) = q := ⟨_, rfl⟩
      have hqs : q < 0 := by
        have h9 := fIdx_ge L (fun m => m.1 == x)
        rw [hq, show L.any (fun m => m.1 == x) = hasN L x from rfl, Ha.out] at h9
        exact Int.not_le.1 (of_decide_eq_false h9)
      rw [hq]
      clear hq
      replace hC := hC.non hc9
      replace hbV := hbV.non hc9
      replace hbR := hbR.non hc9
      replace h1' := h1'.non hc9
      clear v0 v1 d0 d1 e0 e1 bl hc9
      have v0 := hbV.cell 0
      have v1 := hbV.cell 1
      have d0 := hbR.cell 0
      have d1 := hbR.cell 1
      have e0 := hbR.frozen 0
      have e1 := hbR.frozen 1
      have bl := hbR.lt
      simp only [List.getElem?_toArray, List.getElem?_cons_zero, List.getElem?_cons_succ] at v0 v1 d0 d1
      go_wp2_with fail
      refine (node_any x _).mono ?_
      rintro e w8 ⟨rfl, rfl⟩
      rw [Hn.out]
      go_wp2_with fail
      refine (counts_any life _).mono ?_
      rintro e w8 ⟨rfl, rfl⟩
      rw [Hl.out]
      have hb4 := (hbR.put 0 (.int .i64 0)).put 1 (.slice none 0 0)
      simp only [List.setIfInBounds_toArray, List.set_cons_succ, List.set_cons_zero] at hb4
      have r0 := hb4.cell 0
      have r1 := hb4.cell 1
      simp only [List.getElem?_toArray, List.getElem?_cons_zero, List.getElem?_cons_succ] at r0 r1
      have hC4 := (hC.setCell (p := ⟨w.heap.size + 1, 0, none⟩) (.inr (by simp)) (.int .i64 0)).setCell (p := ⟨w.heap.size + 1, 1, none⟩) (.inr (by simp)) (.slice none 0 0)
      clear hbV hbR hb4 hC h1'
      go_wp2_with fail
      exact bodyPost_ret (v := .tuple #[.agg #[.int .i64 0, .slice none 0 0], .int .i64 1]) (by simp [results, Try.results19, go_sem, r0, r1]) rfl ⟨rfl, hC4⟩
  · as_aux_lemma =>
      have hepb : (ep == 2147483647) = true := beq_iff_eq.2 hep
      clear hep
      have Hy := Lib.hid hy
      have Ha := Lib.hid ha
      have Hn := Lib.hid hnn
      have Hl := Lib.hid hl
      clear hy ha hnn hl
      go_enter Try.func19, Try.ntmps19
      go_wp2_with fail
      refine (may_any _ ep A n c L h1' (by omega)).mono ?_
      rintro e w9 ⟨rfl, hc9⟩
      rw [Hy.out]
      try clear hw1
      replace hC := hC.non hc9
      replace hbV := hbV.non hc9
      replace hbR := hbR.non hc9
      replace h1' := h1'.non hc9
      clear v0 v1 d0 d1 e0 e1 bl hc9
      have v0 := hbV.cell 0
      have v1 := hbV.cell 1
      have d0 := hbR.cell 0
      have d1 := hbR.cell 1
      have e0 := hbR.frozen 0
      have e1 := hbR.frozen 1
      have bl := hbR.lt
      simp only [List.getElem?_toArray, List.getElem?_cons_zero, List.getElem?_cons_succ] at v0 v1 d0 d1
      go_wp2_with fail
      refine (viewAt_any _ ep A n c L x h1' (by omega)).mono ?_
      rintro e w9 ⟨rfl, hc9⟩
      obtain ⟨q, hq⟩ : ∃ q, fIdx L (fun m => m.1 == x) = q := ⟨_, rfl⟩
      have hqs : q < 0 := by
        have h9 := fIdx_ge L (fun m => m.1 == x)
        rw [hq, show L.any (fun m => m.1 == x) = hasN L x from rfl, Ha.out] at h9
        exact Int.not_le.1 (of_decide_eq_false h9)
      rw [hq]
      clear hq
      replace hC := hC.non hc9
      replace hbV := hbV.non hc9
      replace hbR := hbR.non hc9
      replace h1' := h1'.non hc9
      clear v0 v1 d0 d1 e0 e1 bl hc9
      have v0 := hbV.cell 0
      have v1 := hbV.cell 1
      have d0 := hbR.cell 0
      have d1 := hbR.cell 1
      have e0 := hbR.frozen 0
      have e1 := hbR.frozen 1
      have bl := hbR.lt
      simp only [List.getElem?_toArray, List.getElem?_cons_zero, List.getElem?_cons_succ] at v0 v1 d0 d1
      go_wp2_with fail
      refine (node_any x _).mono ?_
      rintro e w8 ⟨rfl, rfl⟩
      rw [Hn.out]
      go_wp2_with fail
      refine (counts_any life _).mono ?_
      rintro e w8 ⟨rfl, rfl⟩
      rw [Hl.out]
      have hb4 := (hbR.put 0 (.int .i64 0)).put 1 (.slice none 0 0)
      simp only [List.setIfInBounds_toArray, List.set_cons_succ, List.set_cons_zero] at hb4
      have r0 := hb4.cell 0
      have r1 := hb4.cell 1
      simp only [List.getElem?_toArray, List.getElem?_cons_zero, List.getElem?_cons_succ] at r0 r1
      have hC4 := (hC.setCell (p := ⟨w.heap.size + 1, 0, none⟩) (.inr (by simp)) (.int .i64 0)).setCell (p := ⟨w.heap.size + 1, 1, none⟩) (.inr (by simp)) (.slice none 0 0)
      clear hbV hbR hb4 hC h1'
      go_wp2_with fail
      exact bodyPost_ret (v := .tuple #[.agg #[.int .i64 0, .slice none 0 0], .int .i64 16]) (by simp [results, Try.results19, go_sem, r0, r1]) rfl ⟨rfl, hC4⟩

set_option maxRecDepth 100000 in
set_option maxHeartbeats 2000000 in
theorem with_yes (w : World) (ep : Int) (A : Option Addr) (n c : Nat) (L : List Mb) (x life : Int) (h1 : Rds w 2 A n (mv L)) (hn : n ≤ 1099511627) (he : withE ep L x life = 0) :
    Calls Try.prog 19 #[.agg #[.int .i64 ep, .slice A n c], .int .i64 x, .int .i64 life] w fun e w2 => ∃ A2 c2, e = .returned (.tuple #[.agg #[.int .i64 (ep + 1), .slice A2 (n + 1) c2], .int .i64 0]) ∧ OwnR rkM w2 w.heap.size (.slice A2 (n + 1) c2) (n + 1) (mv (insM (x, life) L)) ∧ Chg Non w w2 := by
  obtain ⟨w1, hw1⟩ : ∃ w1, (w.alloc (.cells #[.int .i64 ep, .slice A n c] 26)).alloc (.cells #[.int .i64 0, .slice none 0 0] 26) = w1 := ⟨_, rfl⟩
  have hC : Chg Non w w1 := hw1 ▸ ((Chg.refl _ _).alloc _).alloc _
  have hbV : Blk w1 w.heap.size 26 #[.int .i64 ep, .slice A n c] := hw1 ▸ (Blk.new w _ _).alloc _
  have hbR : Blk w1 (w.heap.size + 1) 26 #[.int .i64 0, .slice none 0 0] := by
    have := Blk.new (w.alloc (.cells #[.int .i64 ep, .slice A n c] 26)) 26 #[.int .i64 0, .slice none 0 0]
    rw [hw1, World.size_alloc] at this
    exact this
  have h1' := h1.non hC
  have v0 := hbV.cell 0
  have v1 := hbV.cell 1
  have d0 := hbR.cell 0
  have d1 := hbR.cell 1
  have e0 := hbR.frozen 0
  have e1 := hbR.frozen 1
  have bl := hbR.lt
  simp only [List.getElem?_toArray, List.getElem?_cons_zero, List.getElem?_cons_succ] at v0 v1 d0 d1
  obtain ⟨hy, ha, hnn, hl, hep⟩ : mayB ep L = true ∧ hasN L x = false ∧ nodeB x = true ∧ countB life = true ∧ ep ≠ 2147483647 := by
    rcases withE_cases ep L x life with ⟨_, hr⟩ | ⟨_, _, hr⟩ | ⟨_, _, _, hr⟩ | ⟨_, _, _, _, hr⟩ | ⟨_, _, _, _, _, hr⟩ | ⟨a, b, c, d, e, hr⟩
    all_goals first | exact ⟨a, b, c, d, e⟩ | (rw [hr] at he; cases he)
  obtain ⟨hep1, hep2⟩ := may_count hy
  have hadd : IntKind.i64.wrap (ep + 1) = ep + 1 := IntWalk.i64_in _ (by omega)
  have hepb : (ep == 2147483647) = false := beq_eq_false_iff_ne.2 hep
  have Hpw := Lib.hid (mayB_pw hy)
  have Hxn : Hid (∀ m ∈ L, m.1 ≠ (x, life).1) := fun m hm e => by
    unfold hasN at ha
    rw [List.any_eq_false] at ha
    exact ha m hm (beq_iff_eq.2 e)
  have hn : n ≤ 1099511627776 := by omega
  clear he hep
  have Hy := Lib.hid hy
  have Ha := Lib.hid ha
  have Hn := Lib.hid hnn
  have Hl := Lib.hid hl
  clear hy ha hnn hl
  go_enter Try.func19, Try.ntmps19
  go_wp2_with fail
  refine (may_any _ ep A n c L h1' (by omega)).mono ?_
  rintro e w9 ⟨rfl, hc9⟩
  rw [Hy.out]
  try clear hw1
  replace hC := hC.non hc9
  replace hbV := hbV.non hc9
  replace hbR := hbR.non hc9
  replace h1' := h1'.non hc9
  clear v0 v1 d0 d1 e0 e1 bl hc9
  have v0 := hbV.cell 0
  have v1 := hbV.cell 1
  have d0 := hbR.cell 0
  have d1 := hbR.cell 1
  have e0 := hbR.frozen 0
  have e1 := hbR.frozen 1
  have bl := hbR.lt
  simp only [List.getElem?_toArray, List.getElem?_cons_zero, List.getElem?_cons_succ] at v0 v1 d0 d1
  go_wp2_with fail
  refine (viewAt_any _ ep A n c L x h1' (by omega)).mono ?_
  rintro e w9 ⟨rfl, hc9⟩
  obtain ⟨q, hq⟩ : ∃ q, fIdx L (fun m => m.1 == x) = q := ⟨_, rfl⟩
  have hqs : q < 0 := by
    have h9 := fIdx_ge L (fun m => m.1 == x)
    rw [hq, show L.any (fun m => m.1 == x) = hasN L x from rfl, Ha.out] at h9
    exact Int.not_le.1 (of_decide_eq_false h9)
  rw [hq]
  clear hq
  replace hC := hC.non hc9
  replace hbV := hbV.non hc9
  replace hbR := hbR.non hc9
  replace h1' := h1'.non hc9
  clear v0 v1 d0 d1 e0 e1 bl hc9
  have v0 := hbV.cell 0
  have v1 := hbV.cell 1
  have d0 := hbR.cell 0
  have d1 := hbR.cell 1
  have e0 := hbR.frozen 0
  have e1 := hbR.frozen 1
  have bl := hbR.lt
  simp only [List.getElem?_toArray, List.getElem?_cons_zero, List.getElem?_cons_succ] at v0 v1 d0 d1
  go_wp2_with fail
  refine (node_any x _).mono ?_
  rintro e w8 ⟨rfl, rfl⟩
  rw [Hn.out]
  go_wp2_with fail
  refine (counts_any life _).mono ?_
  rintro e w8 ⟨rfl, rfl⟩
  rw [Hl.out]
  go_wp2_with fail
  refine (cloneM_any A n c _ _ h1' (mv_one L) hn).mono ?_
  rintro e w4 ⟨v4, rfl, hown, hc4⟩
  have hs3 := hC.size
  have hC4 := hC.non hc4
  have hbV4 := hbV.non hc4
  have hbR4 := hbR.non hc4
  have hs4 := hc4.size
  have hge : ∀ b, v4.ownBlock = some b → w.heap.size + 1 < b := fun b h => by have := (hown.lt h).1; omega
  clear hC hbV hbR h1' v0 v1 d0 d1 e0 e1 hc4
  go_wp2_with (at_builtin; refine appR1 (K := rkM) rfl (.tmp 37) (.tmp 41) rfl hown rfl (cs := #[.int .i64 x, .int .i64 life]) rfl rfl (cellM_one (x, life)) ?_ ?_ ?_; (next => omega); (next => first | exact hs4 | (simp; omega)); intro v6 w6 h6 hc6 hv6)
  have hv6g : ∀ b, v6.ownBlock = some b → w.heap.size + 1 < b := fun b h => by
    rcases hv6 with e | e
    · exact hge b (e ▸ h)
    · rw [e] at h; have := Option.some.inj h; first | omega | (simp at this; omega)
  have h6b : OwnR rkM w6 w.heap.size v6 (n + 1) (mv (L ++ [(x, life)])) := by rw [mv_snoc]; exact h6.mono (by omega)
  have hC6 := hC4.trans2 hc6 (fun b e => .inr (by have := hge b e; omega))
  have hbV6 := hbV4.chg hc6 (fun e => by have := hge _ e; omega)
  have hbR6 := hbR4.chg hc6 (fun e => by have := hge _ e; omega)
  have HS := Lib.hid (sortM_own w6 w.heap.size v6 (n + 1) _ _ h6b (by omega) (by omega) (insM_perm (x, life) L) (insM_pw Hpw.out Hxn.out))
  have bl6 := hbV6.lt
  have bl7 := hbR6.lt
  clear hc6 h6 h6b hC4 hbV4 hbR4 hown hv6 hge
  go_wp2_with fail
  refine HS.out.mono ?_
  rintro e w7 ⟨rfl, h7, hc7⟩
  obtain ⟨A7, c7, rfl, _⟩ := h7.open_
  have hbV := hbV6.chg hc7 (fun e => by have := hv6g _ e; omega)
  have hbR := hbR6.chg hc7 (fun e => by have := hv6g _ e; omega)
  have hC := hC6.trans2 hc7 (fun b e => .inr (by have := hv6g b e; omega))
  clear HS hbV6 hbR6 hC6 hc7 bl6 bl7 bl
  have v0 := hbV.cell 0
  have v1 := hbV.cell 1
  have d0 := hbR.cell 0
  have d1 := hbR.cell 1
  have e0 := hbR.frozen 0
  have e1 := hbR.frozen 1
  have bl := hbR.lt
  simp only [List.getElem?_toArray, List.getElem?_cons_zero, List.getElem?_cons_succ] at v0 v1 d0 d1
  have hb4 := (hbR.put 0 (.int .i64 (ep + 1))).put 1 (.slice A7 (n + 1) c7)
  simp only [List.setIfInBounds_toArray, List.set_cons_succ, List.set_cons_zero] at hb4
  have r0 := hb4.cell 0
  have r1 := hb4.cell 1
  simp only [List.getElem?_toArray, List.getElem?_cons_zero, List.getElem?_cons_succ] at r0 r1
  have hS : Chg (fun b => b = w.heap.size + 1) w7 ((w7.setCell ⟨w.heap.size + 1, 0, none⟩ (.int .i64 (ep + 1))).setCell ⟨w.heap.size + 1, 1, none⟩ (.slice A7 (n + 1) c7)) := ((Chg.refl _ _).set1 0 _).set1 1 _
  have ho8 : OwnR rkM _ w.heap.size _ _ _ := (h7.chg hS (fun b hb e => by have := hv6g b hb; have e : b = w.heap.size + 1 := e; omega)).mono (by omega)
  have hC4 := hC.trans2 hS (fun b e => .inr (by have e : b = w.heap.size + 1 := e; omega))
  clear hbV hbR hb4 hC h7 hS hv6g
  go_wp2_with fail
  exact bodyPost_ret (v := .tuple #[.agg #[.int .i64 (ep + 1), .slice A7 (n + 1) c7], .int .i64 0]) (by simp [results, Try.results19, go_sem, r0, r1]) rfl ⟨A7, c7, rfl, ho8, hC4⟩
end Go.Proofs.Ytojlglkefiddnaa
