/-
  gleanerref14.Picker.
-/
import Derived.Test.YtiokijldnnkeiaaVictimNext
import Derived.Deep.CutRange
namespace Go.Proofs.Ytiokijldnnkeiaa
open Go.RowKit
set_option linter.unusedVariables false
set_option linter.unusedSimpArgs false

set_option maxRecDepth 100000 in
theorem refDraw_any (w : World) (st n : Int) (h0 : 0 ≤ st) (h1 : st < 4294967296) (hn : 1 ≤ n) :
    Calls Try.prog 20 #[.int .i64 st, .int .i64 n] w fun e w2 => e = .returned (.tuple #[.int .i64 (drawS st), .int .i64 (drawN st n)]) ∧ Chg Non w w2 := by
  have ha := and32 (st * 1664525 + 1013904223)
  have hd := drawS_bd st
  have he : (st * 1664525 + 1013904223) % 4294967296 = drawS st := rfl
  rw [he] at ha
  have Hd : Hid (drawN st n = (drawS st / 256) % n) := rfl
  obtain ⟨d, hde⟩ : ∃ d, drawS st = d := ⟨_, rfl⟩
  rw [hde] at ha hd Hd ⊢
  obtain ⟨hd1, hd2⟩ := hd
  have hd3 : 0 ≤ d / 256 := by omega
  have htm : (d / 256).tmod n = d / 256 % n := Int.tmod_eq_emod_of_nonneg hd3
  clear he hde
  go_enter Try.func20, Try.ntmps20
  go_wp2_with fail
  go_quiet (fail)
  go_wp2_with fail
  go_ret2
  exact ⟨by rw [Hd.out]; rfl, (Chg.refl _ _).drewN _⟩

/-- The document's picker where it lies. -/
structure RAt (w : World) (g : Nat) (p : Pk) (t0 : Int) : Prop where
  blk : Blk w g 33 #[.int .i64 p.nodes, .int .i64 p.self, .int .i64 p.st, .int .i64 t0, .int .i64 p.nxt, .int .i64 p.nxt]
  ok : p.ok
  t64 : i64 t0
  tries : p.tries = if okP p.nodes p.self then max 0 t0 else 0
  lines : p.lines = if okP p.nodes p.self then linesG p.nodes p.self else []
  no : okP p.nodes p.self = false → p.nxt = 0
theorem RAt.non {w w2 : World} {g : Nat} {p : Pk} {t0 : Int} (h : RAt w g p t0) (hc : Chg Non w w2) : RAt w2 g p t0 := ⟨h.blk.non hc, h.ok, h.t64, h.tries, h.lines, h.no⟩
theorem RAt.side {w w2 : World} {g g2 : Nat} {p : Pk} {t0 : Int} (h : RAt w g p t0) (hc : Chg (fun b => b = g2) w w2) (hne : g ≠ g2) : RAt w2 g p t0 := ⟨h.blk.chg hc hne, h.ok, h.t64, h.tries, h.lines, h.no⟩
def RNextPost (w : World) (g : Nat) (p : Pk) (t0 : Int) (e : Ending) (w2 : World) : Prop := e = .returned (.int .i64 p.next.1) ∧ RAt w2 g p.next.2 t0 ∧ Chg (fun b => b = g) w w2

set_option maxRecDepth 100000 in
set_option maxHeartbeats 4000000 in
theorem refNext_no (w : World) (g : Nat) (p : Pk) (t0 : Int) (h : RAt w g p t0) (ho : okP p.nodes p.self = false) :
    Calls Try.prog 14 #[.pointer (some ⟨g, 0, none⟩)] w (RNextPost w g p t0) := by
  have hnx : Hid (p.next = (-1, p)) := by
    show _ = _
    have h1 := h.tries
    have h2 := h.lines
    have h3 := h.no ho
    rw [ho] at h1 h2
    unfold Pk.next
    rw [h1, h2, h3]
    rfl
  have x0 := h.blk.cell 0
  have x1 := h.blk.cell 1
  simp only [List.getElem?_toArray, List.getElem?_cons_zero, List.getElem?_cons_succ] at x0 x1
  have H := Lib.hid h
  have hcase : p.nodes < 2 ∨ (2 ≤ p.nodes ∧ 16 < p.nodes) ∨ (2 ≤ p.nodes ∧ p.nodes ≤ 16 ∧ p.self < 0) ∨ (2 ≤ p.nodes ∧ p.nodes ≤ 16 ∧ 0 ≤ p.self ∧ p.nodes ≤ p.self) := by
    have h9 : ¬ (2 ≤ p.nodes ∧ p.nodes ≤ 16 ∧ 0 ≤ p.self ∧ p.self < p.nodes) := fun h => by rw [okP_iff.2 h] at ho; cases ho
    omega
  clear ho h
  rcases hcase with h1 | ⟨h1, h2⟩ | ⟨h1, h2, h3⟩ | ⟨h1, h2, h3, h4⟩
  · have d1 : decide (p.nodes < 2) = true := decide_eq_true h1
    go_enter Try.func14, Try.ntmps14
    go_wp2_with fail
    go_quiet (fail)
    go_wp2_with fail
    go_ret
    exact ⟨by rw [hnx.out]; rfl, by rw [hnx.out]; exact H.out.non ((Chg.refl _ _).drewN _), (Chg.refl _ _).drewN _⟩
  · have d1 : decide (p.nodes < 2) = false := decide_eq_false (by omega)
    have d2 : decide (16 < p.nodes) = true := decide_eq_true h2
    go_enter Try.func14, Try.ntmps14
    go_wp2_with fail
    go_quiet (fail)
    go_wp2_with fail
    go_ret
    exact ⟨by rw [hnx.out]; rfl, by rw [hnx.out]; exact H.out.non ((Chg.refl _ _).drewN _), (Chg.refl _ _).drewN _⟩
  · have d1 : decide (p.nodes < 2) = false := decide_eq_false (by omega)
    have d2 : decide (16 < p.nodes) = false := decide_eq_false (by omega)
    have d3 : decide (p.self < 0) = true := decide_eq_true h3
    go_enter Try.func14, Try.ntmps14
    go_wp2_with fail
    go_quiet (fail)
    go_wp2_with fail
    go_ret
    exact ⟨by rw [hnx.out]; rfl, by rw [hnx.out]; exact H.out.non ((Chg.refl _ _).drewN _), (Chg.refl _ _).drewN _⟩
  · have d1 : decide (p.nodes < 2) = false := decide_eq_false (by omega)
    have d2 : decide (16 < p.nodes) = false := decide_eq_false (by omega)
    have d3 : decide (p.self < 0) = false := decide_eq_false (by omega)
    have d4 : decide (p.nodes ≤ p.self) = true := decide_eq_true h4
    go_enter Try.func14, Try.ntmps14
    go_wp2_with fail
    go_quiet (fail)
    go_wp2_with fail
    go_ret
    exact ⟨by rw [hnx.out]; rfl, by rw [hnx.out]; exact H.out.non ((Chg.refl _ _).drewN _), (Chg.refl _ _).drewN _⟩

set_option maxRecDepth 100000 in
set_option maxHeartbeats 4000000 in
theorem refNext_yes (w : World) (g : Nat) (p : Pk) (t0 : Int) (h : RAt w g p t0) (ho : okP p.nodes p.self = true) (hx : p.nxt ≤ 1000000000) :
    Calls Try.prog 14 #[.pointer (some ⟨g, 0, none⟩)] w (RNextPost w g p t0) := by
  obtain ⟨v1, v2, v3, v4⟩ := okP_iff.1 ho
  obtain ⟨hb, hok, ht64, htr, hln, hno⟩ := h
  have Hok := Lib.hid hok
  obtain ⟨k0, k1, k2, k3, k4, k5, k6, k7⟩ := hok
  have Ho := Lib.hid ho
  rw [ho] at htr hln
  simp only [if_true] at htr hln
  have Htr := Lib.hid htr
  have Hln := Lib.hid hln
  have htt : (t0 < 0 ∧ p.tries = 0) ∨ (0 ≤ t0 ∧ p.tries = t0) := by omega
  clear hno ho htr hln k5 k7
  have x0 := hb.cell 0
  have x1 := hb.cell 1
  simp only [List.getElem?_toArray, List.getElem?_cons_zero, List.getElem?_cons_succ] at x0 x1
  have d1 : decide (p.nodes < 2) = false := decide_eq_false (by omega)
  have d2 : decide (16 < p.nodes) = false := decide_eq_false (by omega)
  have d3 : decide (p.self < 0) = false := decide_eq_false (by omega)
  have d4 : decide (p.nodes ≤ p.self) = false := decide_eq_false (by omega)
  obtain ⟨tr, hte⟩ : ∃ tr, p.tries = tr := ⟨_, rfl⟩
  rw [hte] at htt k2 k3
  have Hte := Lib.hid hte
  clear hte
  have q3 : w.cell? ⟨g, 3, none⟩ = some (.int .i64 t0) := hb.cell 3
  go_enter Try.func14, Try.ntmps14
  go_wp2_with fail
  go_quiet (fail)
  go_upto_if 43 with (fail)
  have hb1 := hb.drewN nq
  have hC1 : Chg (fun b => b = g) w (w.drewN nq) := (Chg.refl _ _).drewN nq
  obtain ⟨w1, e1⟩ : ∃ w1, w.drewN nq = w1 := ⟨_, rfl⟩
  rw [e1] at hb1 hC1 ⊢
  clear e1 x0 x1 d1 d2 d3 d4 q3
  go_cut [3] from 42 to 43 (fun v wx => v = .int .i64 tr ∧ w1 = wx)
  case first =>
    rcases htt with ⟨ht, ht2⟩ | ⟨ht, ht2⟩
    · have ht3 := Lib.hid ht2
      clear ht2
      go_wp2_with fail
      go_meet
      exact ⟨by rw [ht3.out], rfl⟩
    · have ht3 := Lib.hid ht2
      clear ht2
      go_wp2_with fail
      go_meet
      exact ⟨by rw [ht3.out], rfl⟩
  case rest =>
    obtain ⟨rfl, rfl⟩ := hcut
    have q0 : ∀ w2, Chg Non w1 w2 → w2.cell? ⟨g, 0, none⟩ = some (.int .i64 p.nodes) := fun w2 h2 => h2.cell (hb1.cell 0) id
    have q1 : ∀ w2, Chg Non w1 w2 → w2.cell? ⟨g, 1, none⟩ = some (.int .i64 p.self) := fun w2 h2 => h2.cell (hb1.cell 1) id
    go_wp2_with fail
    refine st_region_tail 8 8 Non [] [] (fun _ _ _ _ => True) (fun _ _ _ _ => True) (fun _ _ _ => True) (fun _ => True) (by kernel_rfl) (by kernel_rfl) (by kernel_rfl) (fun _ h => h.elim) trivial (fun _ _ _ => trivial) ?_
    repeat (first | (refine st_pass (by rfl) ?_; simp only [Act.put, List.setIfInBounds_toArray, List.set_cons_succ, List.set_cons_zero]) | (refine st_plain (Non) (w1) rfl rfl (f := ?_) (by rfl) rfl rfl (fun w hC hG => ?_) ?_; rotate_left; (clear hG; first | (go_simp; done) | (go_simp; with_reducible rfl) | (simp [*, go_sem, ↓IntWalk.iteOmega]; done) | (simp [*, go_sem, ↓IntWalk.iteOmega]; with_reducible rfl)); simp only [Act.put, List.setIfInBounds_toArray, List.set_cons_succ, List.set_cons_zero]))
    refine st_tail Non w1 rfl rfl rfl (fun w2 hC2 _ _ => ?_)
    simp only [List.drop_succ_cons, List.drop_zero]
    replace hb1 := hb1.non hC2
    replace hC1 := hC1.non hC2
    clear q0 q1 hC2
    go_wp2_with fail
    refine (refLines_any p.nodes p.self w2).mono ?_
    rintro e w3 ⟨v, n, rfl, hown, hc3⟩
    rw [← Hln.out] at hown
    replace hb1 := hb1.non hc3
    replace hC1 := hC1.non hc3
    have hbg := hb1.lt
    obtain ⟨A, c, rfl, hnc, hcm, hr, _⟩ := hown.open_
    have Hnl := Lib.hid (show n = p.lines.length from hr.lenMap (f := fun n : Int => .int .i64 n))
    have hn12 : n ≤ 12 := by have := Hnl.out; omega
    clear hc3
    have x4 := hb1.cell 4
    simp only [List.getElem?_toArray, List.getElem?_cons_zero, List.getElem?_cons_succ] at x4
    by_cases hA : p.nxt < tr
    · have Hnx : Hid (p.next = (p.pick, { p with st := drawS p.st, nxt := p.nxt + 1 })) := by show _ = _; unfold Pk.next; rw [if_pos (by rw [Hte.out]; exact hA)]
      have hi1 : p.nxt + 1 ≤ 9223372036854775807 := by omega
      have q2 : ∀ w2, Chg Non w3 w2 → w2.cell? ⟨g, 2, none⟩ = some (.int .i64 p.st) := fun w2 h2 => h2.cell (hb1.cell 2) id
      have q0 : ∀ w2, Chg Non w3 w2 → w2.cell? ⟨g, 0, none⟩ = some (.int .i64 p.nodes) := fun w2 h2 => h2.cell (hb1.cell 0) id
      have i9 : IntKind.i64.wrap (p.nodes - 1) = p.nodes - 1 := by rw [IntKind.wrap_i64]; omega
      go_wp2_with fail
      refine st_region 8 Non [9] [] (fun _ _ _ _ => True) (fun _ _ _ _ => True) (fun _ _ v => v = .tuple #[.int .i64 (drawS p.st), .int .i64 (drawN p.st (p.nodes - 1))]) (fun _ => True) (by kernel_rfl) (by kernel_rfl) (fun _ h => h.elim) trivial (fun _ _ _ => trivial) ?_
      repeat (first | (refine st_pass (by rfl) ?_; simp only [Act.put, List.setIfInBounds_toArray, List.set_cons_succ, List.set_cons_zero]) | (refine st_plain (Non) (w3) rfl rfl (f := ?_) (by rfl) rfl rfl (fun w hC hG => ?_) ?_; rotate_left; (clear hG; first | (go_simp; done) | (go_simp; with_reducible rfl) | (simp [*, go_sem, ↓IntWalk.iteOmega]; done) | (simp [*, go_sem, ↓IntWalk.iteOmega]; with_reducible rfl)); simp only [Act.put, List.setIfInBounds_toArray, List.set_cons_succ, List.set_cons_zero]))
      refine st_major (Non) (w3) rfl rfl (by rfl) rfl (⟨_, rfl⟩) (fun _ _ _ _ _ h => h) (fun _ _ _ _ => trivial) (fun w hC hG hS => settle_of (r2 := ?_) ?_ ?_) ?_
      rotate_left
      (first | (go_simp; done) | (go_simp; rfl))
      · refine settle_enter ((refDraw_any _ p.st (p.nodes - 1) k0 k1 (by omega)).mono ?_)
        rintro e w5 ⟨rfl, hc5⟩
        exact ⟨_, rfl, rfl, hc5, trivial, trivial⟩
      rintro v rfl
      simp only [Act.put, List.setIfInBounds_toArray, List.set_cons_succ, List.set_cons_zero]
      repeat (first | (refine st_pass (by rfl) ?_; simp only [Act.put, List.setIfInBounds_toArray, List.set_cons_succ, List.set_cons_zero]) | (refine st_plain (Non) (w3) rfl rfl (f := ?_) (by rfl) rfl rfl (fun w hC hG => ?_) ?_; rotate_left; (clear hG; first | (go_simp; done) | (go_simp; with_reducible rfl) | (simp [*, go_sem, ↓IntWalk.iteOmega]; done) | (simp [*, go_sem, ↓IntWalk.iteOmega]; with_reducible rfl)); simp only [Act.put, List.setIfInBounds_toArray, List.set_cons_succ, List.set_cons_zero]))
      refine st_end Non w3 rfl rfl (fun w5 hC5 _ _ => ?_)
      replace hb1 := hb1.non hC5
      replace hC1 := hC1.non hC5
      clear q0 q2 x4 hown hr
      have hdn : 0 ≤ drawN p.st (p.nodes - 1) ∧ drawN p.st (p.nodes - 1) < p.nodes - 1 := by
        unfold drawN
        exact ⟨Int.emod_nonneg _ (by omega), Int.emod_lt_of_pos _ (by omega)⟩
      obtain ⟨hd1, hd2⟩ := hdn
      have hpl := Lib.hid (pick_lt (p := p))
      have hpg := Lib.hid (pick_ge (p := p))
      have hds := drawS_bd p.st
      obtain ⟨d, hd⟩ : ∃ d, drawN p.st (p.nodes - 1) = d := ⟨_, rfl⟩
      rw [hd] at hd1 hd2 ⊢
      have Hd := Lib.hid hd
      clear hd hC5
      obtain ⟨s2, hs2⟩ : ∃ s2, drawS p.st = s2 := ⟨_, rfl⟩
      rw [hs2] at hds Hnx ⊢
      have hb2 := ((hb1.put 2 (.int .i64 s2)).put 4 (.int .i64 (p.nxt + 1))).put 5 (.int .i64 (p.nxt + 1))
      simp only [List.setIfInBounds_toArray, List.set_cons_succ, List.set_cons_zero] at hb2
      have hC2 := ((hC1.set1 2 (.int .i64 s2)).set1 4 (.int .i64 (p.nxt + 1))).set1 5 (.int .i64 (p.nxt + 1))
      have hpk : RAt (((w5.setCell ⟨g, 2, none⟩ (.int .i64 s2)).setCell ⟨g, 4, none⟩ (.int .i64 (p.nxt + 1))).setCell ⟨g, 5, none⟩ (.int .i64 (p.nxt + 1))) g p.next.2 t0 := by
        rw [Hnx.out]
        exact ⟨hb2, ⟨hds.1, hds.2, Hok.out.t0, Hok.out.t1, by show 0 ≤ p.nxt + 1; omega, Hok.out.v, Hok.out.l, Hok.out.x⟩, ht64, by show p.tries = if okP p.nodes p.self then _ else _; rw [Ho.out]; exact Htr.out, by show p.lines = if okP p.nodes p.self then _ else _; rw [Ho.out]; exact Hln.out, fun h => by have h : okP p.nodes p.self = false := h; rw [Ho.out] at h; cases h⟩
      have Hpk := Lib.hid hpk
      have Hb1 := Lib.hid hb1
      have f2 := hb1.frozen 2
      have f4 := hb1.frozen 4
      have f5 := hb1.frozen 5
      have x1 := hb1.cell 1
      have x2 := hb1.cell 2
      have x4 := hb1.cell 4
      have x5 := hb1.cell 5
      simp only [List.getElem?_toArray, List.getElem?_cons_zero, List.getElem?_cons_succ] at x1 x2 x4 x5
      clear hpk hds hs2 hb2 hb1
      by_cases hlt : d < p.self
      · go_wp2_with fail
        go_ret
        exact ⟨by rw [Hnx.out]; show _ = Ending.returned (.int .i64 p.pick); rw [hpl.out (by rw [Hd.out]; exact hlt), Hd.out]; rfl, Hpk.out, hC2⟩
      · go_wp2_with fail
        go_ret
        exact ⟨by rw [Hnx.out]; show _ = Ending.returned (.int .i64 p.pick); rw [hpg.out (by rw [Hd.out]; exact hlt), Hd.out]; rfl, Hpk.out, hC2⟩
    · obtain ⟨j, hj⟩ : ∃ j : Nat, p.nxt = tr + j := ⟨(p.nxt - tr).toNat, by omega⟩
      have i1 : IntKind.i64.wrap (p.nxt - tr) = j := by rw [IntKind.wrap_i64]; omega
      by_cases hB : j < n
      · have Hnx : Hid (p.next = ((p.lines[(p.nxt - p.tries).toNat]?).getD 0, { p with nxt := p.nxt + 1 })) := by
          show _ = _; unfold Pk.next; rw [if_neg (by rw [Hte.out]; exact hA), if_pos (by rw [Hte.out]; have := Hnl.out; omega)]
        obtain ⟨ad, y, rfl, hy, hcell⟩ := hr.getI hB
        have Hj := Lib.hid hj
        have Hy := Lib.hid hy
        have hi1 : p.nxt + 1 ≤ 9223372036854775807 := by omega
        clear hj hy
        have hb2 := (hb1.put 4 (.int .i64 (p.nxt + 1))).put 5 (.int .i64 (p.nxt + 1))
        simp only [List.setIfInBounds_toArray, List.set_cons_succ, List.set_cons_zero] at hb2
        have hC2 := (hC1.set1 4 (.int .i64 (p.nxt + 1))).set1 5 (.int .i64 (p.nxt + 1))
        have hpk : RAt ((w3.setCell ⟨g, 4, none⟩ (.int .i64 (p.nxt + 1))).setCell ⟨g, 5, none⟩ (.int .i64 (p.nxt + 1))) g p.next.2 t0 := by
          rw [Hnx.out]
          exact ⟨hb2, ⟨k0, k1, Hok.out.t0, Hok.out.t1, by show 0 ≤ p.nxt + 1; omega, Hok.out.v, Hok.out.l, Hok.out.x⟩, ht64, by show p.tries = if okP p.nodes p.self then _ else _; rw [Ho.out]; exact Htr.out, by show p.lines = if okP p.nodes p.self then _ else _; rw [Ho.out]; exact Hln.out, fun h => by have h : okP p.nodes p.self = false := h; rw [Ho.out] at h; cases h⟩
        have Hpk := Lib.hid hpk
        have f4 := hb1.frozen 4
        have f5 := hb1.frozen 5
        have x5 := hb1.cell 5
        simp only [List.getElem?_toArray, List.getElem?_cons_zero, List.getElem?_cons_succ] at x5
        have hnx : Hid (p.next.1 = y) := by
          show _ = _
          rw [Hnx.out]
          show (p.lines[(p.nxt - p.tries).toNat]?).getD 0 = y
          rw [show (p.nxt - p.tries).toNat = j from by have h1 := Hj.out; have h2 := Hte.out; omega, Hy.out]
          rfl
        clear hpk hb2 hb1 hown
        go_wp2_with fail
        go_ret
        exact ⟨by rw [hnx.out]; rfl, Hpk.out, hC2⟩
      · have Hnx : Hid (p.next = (-1, p)) := by
          show _ = _; unfold Pk.next; rw [if_neg (by rw [Hte.out]; exact hA), if_neg (by rw [Hte.out]; have := Hnl.out; omega)]
        have hpk : RAt w3 g p.next.2 t0 := by
          rw [Hnx.out]
          exact ⟨hb1, Hok.out, ht64, by show p.tries = if okP p.nodes p.self then _ else _; rw [Ho.out]; exact Htr.out, by show p.lines = if okP p.nodes p.self then _ else _; rw [Ho.out]; exact Hln.out, fun h => by have h : okP p.nodes p.self = false := h; rw [Ho.out] at h; cases h⟩
        have Hpk := Lib.hid hpk
        clear hj hpk hb1 hown
        go_wp2_with fail
        go_ret
        exact ⟨by rw [Hnx.out]; rfl, Hpk.out, hC1⟩
end Go.Proofs.Ytiokijldnnkeiaa
