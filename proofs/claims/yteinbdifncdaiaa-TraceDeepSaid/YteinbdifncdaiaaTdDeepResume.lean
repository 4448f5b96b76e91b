/-
  gleanerref4.(*Known).Resume.
-/
import Derived.Test.YteinbdifncdaiaaTdDeepStep
namespace Go.Proofs.Yteinbdifncdaiaa
open Go.RowKit
set_option linter.unusedVariables false
set_option linter.unusedSimpArgs false

/-- What Resume answers. -/
def RsPost (w : World) (s : Stt) (e : Ending) (w2 : World) : Prop :=
  ∃ s2 ev, e = .returned (.tuple #[.agg (stC s2), .agg (evC ev)]) ∧ StAt w2 s2 ∧ Chg Non w w2 ∧ (∀ b, RowB s2.sA b → w.heap.size ≤ b) ∧ (∀ b, RowB s2.lA b → w.heap.size ≤ b) ∧ (ev.kind = 3 ∨ (ev.kind = 0 ∧ s2.wt = false ∧ s2.k = s.k ∧ s2.u = s.u))
set_option maxRecDepth 100000 in
set_option maxHeartbeats 16000000 in
theorem refResume_any (w : World) (b : Nat) (j : Jb) (dA : Option Addr) (dc : Nat) (R : List DRow) (hk : KnAt w b j dA dc R) (s : Stt) (hs : StAt w s) (hwt : s.wt = true) (er va : Int) :
    Calls Try.prog 49 #[.pointer (some ⟨b, 0, none⟩), .agg (stC s), .agg #[.int .i64 er, .int .i64 va]] w (RsPost w s) := by
  obtain ⟨w1, hw1⟩ : ∃ w1, (((w.alloc (.cells (stC s) 95)).alloc (.cells #[.int .i64 er, .int .i64 va] 30)).alloc (.cells (stC st0) 95)).alloc (.cells (evC ev0) 100) = w1 := ⟨_, rfl⟩
  have hc1 : Chg Non w w1 := hw1 ▸ ((((Chg.refl _ _).alloc _).alloc _).alloc _).alloc _
  have hb1 : Blk w1 w.heap.size 95 (stC s) := hw1 ▸ (((Blk.new w _ _).alloc _).alloc _).alloc _
  have hq1 : Blk w1 (w.heap.size + 1) 30 #[.int .i64 er, .int .i64 va] := by
    have := ((Blk.new (w.alloc (.cells (stC s) 95)) 30 #[.int .i64 er, .int .i64 va]).alloc (.cells (stC st0) 95)).alloc (.cells (evC ev0) 100)
    rw [hw1, World.size_alloc] at this
    exact this
  have h81 : Blk w1 (w.heap.size + 2) 95 (stC st0) := by
    have := (Blk.new ((w.alloc (.cells (stC s) 95)).alloc (.cells #[.int .i64 er, .int .i64 va] 30)) 95 (stC st0)).alloc (.cells (evC ev0) 100)
    rw [hw1, World.size_alloc, World.size_alloc] at this
    exact this
  have h91 : Blk w1 (w.heap.size + 3) 100 (evC ev0) := by
    have := Blk.new (((w.alloc (.cells (stC s) 95)).alloc (.cells #[.int .i64 er, .int .i64 va] 30)).alloc (.cells (stC st0) 95)) 100 (evC ev0)
    rw [hw1, World.size_alloc, World.size_alloc, World.size_alloc] at this
    exact this
  have hz1 : w1.heap.size = w.heap.size + 4 := by rw [← hw1]; simp
  obtain ⟨x0, x1, x2, x3, x4, x5, x6⟩ := cell7 hb1
  have hbl := hb1.lt
  have hmay := refMay_any w1 b j dA dc R (hk.non hc1) s (hs.non hc1)
  have HM := Lib.hid hmay
  have HK := Lib.hid hk
  have Hs := Lib.hid hs
  have Hwt := Lib.hid hwt
  have Hc1 := Lib.hid hc1
  have Hb1 := Lib.hid hb1
  have Hq1 := Lib.hid hq1
  have H81 := Lib.hid h81
  have H91 := Lib.hid h91
  have Hz1 := Lib.hid hz1
  unfold stC st0 evC ev0 at hw1
  unfold stC
  clear hc1 hb1 hq1 h81 h91 hz1 hk hs hmay hwt
  go_enter Try.func49, Try.ntmps49
  go_wp2_with fail
  refine HM.out.mono ?_
  rintro e w2 ⟨ok, rfl, hc2, hok⟩
  have hb2 := Hb1.out.non hc2
  have hc02 := Hc1.out.non hc2
  have hcp := refCopied_any w2 s (Hs.out.non hc02)
  clear x0 x1 x2 x3 x4 x5 x6 hw1 hbl
  obtain ⟨x0, x1, x2, x3, x4, x5, x6⟩ := cell7 hb2
  have hbl := hb2.lt
  have HCp := Lib.hid hcp
  have Hok := Lib.hid hok
  have Hc02 := Lib.hid hc02
  have Hb2 := Lib.hid hb2
  have Hq2 := Lib.hid (Hq1.out.non hc2)
  have H82 := Lib.hid (H81.out.non hc2)
  have H92 := Lib.hid (H91.out.non hc2)
  have Hz2 : Hid (w.heap.size + 4 ≤ w2.heap.size) := by show _ ≤ _; have := hc2.size; have := Hz1.out; omega
  clear hcp hok hc02 hc2 hb2
  go_wp2_with fail
  refine HCp.out.mono ?_
  rintro e w3 ⟨A3, c3, B3, d3, rfl, hso, hc3⟩
  have hb3 := Hb2.out.non hc3
  have hq3 := Hq2.out.non hc3
  have h83 := H82.out.non hc3
  have h93 := H92.out.non hc3
  have hc03 := Hc02.out.non hc3
  clear x0 x1 x2 x3 x4 x5 x6 hbl
  obtain ⟨x0, x1, x2, x3, x4, x5, x6⟩ := cell7 hb3
  obtain ⟨z0, z1, z2, z3, z4, z5, z6⟩ : w3.frozen? ⟨w.heap.size, 0, none⟩ = false ∧ w3.frozen? ⟨w.heap.size, 1, none⟩ = false ∧ w3.frozen? ⟨w.heap.size, 2, none⟩ = false ∧ w3.frozen? ⟨w.heap.size, 3, none⟩ = false ∧ w3.frozen? ⟨w.heap.size, 4, none⟩ = false ∧ w3.frozen? ⟨w.heap.size, 5, none⟩ = false ∧ w3.frozen? ⟨w.heap.size, 6, none⟩ = false := ⟨hb3.frozen 0, hb3.frozen 1, hb3.frozen 2, hb3.frozen 3, hb3.frozen 4, hb3.frozen 5, hb3.frozen 6⟩
  have hbl := hb3.lt
  obtain ⟨w4, hw4⟩ : ∃ w4, set7 w3 w.heap.size (.int .i64 s.f) (.int .i64 s.p) (.int .i64 s.u) (.slice A3 s.sn c3) (.slice B3 s.ln d3) (.int .i64 s.k) (.bool true) = w4 := ⟨_, rfl⟩
  have hS4 : Chg (fun b => b = w.heap.size) w3 w4 := hw4 ▸ set7_chg _ _ _ _ _ _ _ _ _
  have hb4 := set7_blk (show Blk w3 w.heap.size 95 #[.int .i64 s.f, .int .i64 s.p, .int .i64 s.u, .slice s.sA s.sn s.sc, .slice s.lA s.ln s.lc, .int .i64 s.k, .bool s.wt] from hb3) (.int .i64 s.f) (.int .i64 s.p) (.int .i64 s.u) (.slice A3 s.sn c3) (.slice B3 s.ln d3) (.int .i64 s.k) (.bool true)
  rw [hw4] at hb4
  have hq4 := hq3.chg hS4 (fun e => by have e : w.heap.size + 1 = w.heap.size := e; omega)
  have h84 := h83.chg hS4 (fun e => by have e : w.heap.size + 2 = w.heap.size := e; omega)
  have h94 := h93.chg hS4 (fun e => by have e : w.heap.size + 3 = w.heap.size := e; omega)
  have hc04 : Chg Non w w4 := hc03.trans2 hS4 (fun b e => .inr (Nat.le_of_eq e.symm))
  have hso4 : StOwn w4 w2.heap.size { s with sA := A3, sc := c3, lA := B3, lc := d3 } := by
    have h1 := Hz2.out
    exact ⟨hso.os.chg hS4 (fun g hg e => by have := (hso.os.lt hg).1; have e : g = w.heap.size := e; omega), hso.ol.chg hS4 (fun g hg e => by have := (hso.ol.lt hg).1; have e : g = w.heap.size := e; omega), hso.ap, hso.sn, hso.ln⟩
  have Hc23 := Lib.hid hc3
  have Hw4 := Lib.hid hw4
  have Hb4 := Lib.hid hb4
  have Hq4 := Lib.hid hq4
  have H84 := Lib.hid h84
  have H94 := Lib.hid h94
  have Hc04 := Lib.hid hc04
  have Hso4 := Lib.hid hso4
  clear hb3 hq3 h83 h93 hc03 hS4 hb4 hq4 h84 h94 hc04 hso4 hso hc3 hw4
  unfold stC
  rw [Hwt.out]
  cases ok with
  | false =>
    go_wp2_with fail
    rw [set7_name, Hw4.out]
    have xs : ∀ wx, Chg (TwoB (w.heap.size + 2)) w4 wx → Blk wx w.heap.size 95 #[.int .i64 s.f, .int .i64 s.p, .int .i64 s.u, .slice A3 s.sn c3, .slice B3 s.ln d3, .int .i64 s.k, .bool true] := fun wx h => Hb4.out.chg h (fun e => by rcases e with e | e <;> omega)
    have g0 : ∀ wx, Chg (TwoB (w.heap.size + 2)) w4 wx → wx.cell? ⟨w.heap.size, 0, none⟩ = some (.int .i64 s.f) := fun wx h => (xs wx h).cell 0
    have g1 : ∀ wx, Chg (TwoB (w.heap.size + 2)) w4 wx → wx.cell? ⟨w.heap.size, 1, none⟩ = some (.int .i64 s.p) := fun wx h => (xs wx h).cell 1
    have g2 : ∀ wx, Chg (TwoB (w.heap.size + 2)) w4 wx → wx.cell? ⟨w.heap.size, 2, none⟩ = some (.int .i64 s.u) := fun wx h => (xs wx h).cell 2
    have g3 : ∀ wx, Chg (TwoB (w.heap.size + 2)) w4 wx → wx.cell? ⟨w.heap.size, 3, none⟩ = some (.slice A3 s.sn c3) := fun wx h => (xs wx h).cell 3
    have g4 : ∀ wx, Chg (TwoB (w.heap.size + 2)) w4 wx → wx.cell? ⟨w.heap.size, 4, none⟩ = some (.slice B3 s.ln d3) := fun wx h => (xs wx h).cell 4
    have g5 : ∀ wx, Chg (TwoB (w.heap.size + 2)) w4 wx → wx.cell? ⟨w.heap.size, 5, none⟩ = some (.int .i64 s.k) := fun wx h => (xs wx h).cell 5
    have g6 : ∀ wx, Chg (TwoB (w.heap.size + 2)) w4 wx → wx.cell? ⟨w.heap.size, 6, none⟩ = some (.bool true) := fun wx h => (xs wx h).cell 6
    have H8 := H84
    have H9 := H94
    clear xs x0 x1 x2 x3 x4 x5 x6 z0 z1 z2 z3 z4 z5 z6
    refine y_region _ (TwoB (w.heap.size + 2)) [1, 2, 3] [] (fun i _ _ wx => if i = 2 then Two (w.heap.size + 2) #[.int .i64 s.f, .int .i64 s.p, .int .i64 s.u, .slice A3 s.sn c3, .slice B3 s.ln d3, .int .i64 s.k, .bool true] (evC ev0) wx else if i = 3 then Two (w.heap.size + 2) #[.int .i64 s.f, .int .i64 s.p, .int .i64 s.u, .slice A3 s.sn c3, .slice B3 s.ln d3, .int .i64 s.k, .bool true] #[.int .i64 3, .int .i64 0, .int .i64 0, .int .i64 0, .slice none 0 0, .int .i64 1, .int .i64 0] wx else Two (w.heap.size + 2) (stC st0) (evC ev0) wx) (fun _ _ _ _ => True) (fun i _ v => if i = 1 then v = .agg #[.int .i64 3, .int .i64 0, .int .i64 0, .int .i64 0, .slice none 0 0, .int .i64 1, .int .i64 0] else v = undef) (Two (w.heap.size + 2) (stC st0) (evC ev0)) (by kernel_rfl) (okB_of_F _ (by kernel_rfl)) (fun b hb => by have h1 := H8.out.lt; have h2 := H9.out.lt; rcases hb with e | e <;> (rw [e]; omega)) ⟨H8.out, H9.out⟩ (fun _ _ h => h.alloc _) ?_
    repeat (first | (refine y_plain (TwoB (w.heap.size + 2)) (w4) rfl rfl (f := ?_) (a2 := ?_) (k2 := ?_) (wanted_none rfl) rfl rfl (fun w hC hG => ?_) ?_ ?_ ?_ rfl; rotate_left 3; (clear hG; first | (go_simp; done) | (go_simp; with_reducible rfl) | (simp [*, go_sem, ↓IntWalk.iteOmega]; done) | (simp [*, go_sem, ↓IntWalk.iteOmega]; with_reducible rfl)); (simp only [Act.put, List.setIfInBounds_toArray, List.set_cons_succ, List.set_cons_zero]; with_reducible exact rfl); ((conv => lhs; simp only [Nat.reduceAdd]); try with_reducible exact rfl)) | (refine y_pass (a2 := ?_) (k2 := ?_) (wanted_no rfl rfl rfl rfl) ?_ ?_ ?_ rfl; rotate_left 2; (simp only [Act.put, List.setIfInBounds_toArray, List.set_cons_succ, List.set_cons_zero]; with_reducible exact rfl); ((conv => lhs; simp only [Nat.reduceAdd]); try with_reducible exact rfl)) | (refine y_plain (TwoB (w.heap.size + 2)) (w4) rfl rfl (f := ?_) (a2 := ?_) (k2 := ?_) (wanted_yes rfl rfl rfl) rfl rfl (fun w hC hG => ?_) ?_ ?_ ?_ rfl; rotate_left 3; (clear hG; first | (go_simp; done) | (go_simp; with_reducible rfl) | (simp [*, go_sem, ↓IntWalk.iteOmega]; done) | (simp [*, go_sem, ↓IntWalk.iteOmega]; with_reducible rfl)); (simp only [Act.put, List.setIfInBounds_toArray, List.set_cons_succ, List.set_cons_zero]; with_reducible exact rfl); ((conv => lhs; simp only [Nat.reduceAdd]); try with_reducible exact rfl)))
    refine y_major (TwoB (w.heap.size + 2)) (w4) rfl rfl (a2 := ?_) (k2 := ?_) (wanted_none rfl) rfl (⟨.agg #[.int .i64 3, .int .i64 0, .int .i64 0, .int .i64 0, .slice none 0 0, .int .i64 1, .int .i64 0], rfl⟩) (fun _ _ _ _ _ _ => trivial) (fun v w ob h => Two.alloc h ob) (fun w hC hG hS => ?_) (fun v => ?_) ?_ (fun v hv => ?_) rfl
    rotate_left 3
    (simp only [Act.put, List.setIfInBounds_toArray, List.set_cons_succ, List.set_cons_zero]; with_reducible exact rfl)
    ((conv => lhs; simp only [Nat.reduceAdd]); try with_reducible exact rfl)
    rotate_left
    · refine settle_of (r2 := .ok (.enter 64 #[.int .i64 0, .int .i64 1, .int .i64 0]) w) ?_ (settle_enter ((refEnded_lit w 0 1 0).mono ?_))
      · (first | (go_simp; done) | (go_simp; rfl))
      · rintro e w9 ⟨rfl, hc9⟩
        exact ⟨_, rfl, rfl, hc9.of_non, Two.non hS hc9, trivial⟩
    have hv : v = .agg #[.int .i64 3, .int .i64 0, .int .i64 0, .int .i64 0, .slice none 0 0, .int .i64 1, .int .i64 0] := hv
    subst hv
    repeat (first | (refine y_plain (TwoB (w.heap.size + 2)) (w4) rfl rfl (f := ?_) (a2 := ?_) (k2 := ?_) (wanted_none rfl) rfl rfl (fun w hC hG => ?_) ?_ ?_ ?_ rfl; rotate_left 3; (clear hG; first | (go_simp; done) | (go_simp; with_reducible rfl) | (simp [*, go_sem, ↓IntWalk.iteOmega]; done) | (simp [*, go_sem, ↓IntWalk.iteOmega]; with_reducible rfl)); (simp only [Act.put, List.setIfInBounds_toArray, List.set_cons_succ, List.set_cons_zero]; with_reducible exact rfl); ((conv => lhs; simp only [Nat.reduceAdd]); try with_reducible exact rfl)) | (refine y_pass (a2 := ?_) (k2 := ?_) (wanted_no rfl rfl rfl rfl) ?_ ?_ ?_ rfl; rotate_left 2; (simp only [Act.put, List.setIfInBounds_toArray, List.set_cons_succ, List.set_cons_zero]; with_reducible exact rfl); ((conv => lhs; simp only [Nat.reduceAdd]); try with_reducible exact rfl)) | (refine y_plain (TwoB (w.heap.size + 2)) (w4) rfl rfl (f := ?_) (a2 := ?_) (k2 := ?_) (wanted_yes rfl rfl rfl) rfl rfl (fun w hC hG => ?_) ?_ ?_ ?_ rfl; rotate_left 3; (clear hG; first | (go_simp; done) | (go_simp; with_reducible rfl) | (simp [*, go_sem, ↓IntWalk.iteOmega]; done) | (simp [*, go_sem, ↓IntWalk.iteOmega]; with_reducible rfl)); (simp only [Act.put, List.setIfInBounds_toArray, List.set_cons_succ, List.set_cons_zero]; with_reducible exact rfl); ((conv => lhs; simp only [Nat.reduceAdd]); try with_reducible exact rfl)))
    refine y_major (TwoB (w.heap.size + 2)) (w4) rfl rfl (a2 := ?_) (k2 := ?_) (wanted_none rfl) rfl (⟨undef, rfl⟩) (fun _ _ _ _ _ _ => trivial) (fun v w ob h => Two.alloc h ob) (fun w hC hG hS => ?_) (fun v => ?_) ?_ (fun v hv => ?_) rfl
    rotate_left 3
    (simp only [Act.put, List.setIfInBounds_toArray, List.set_cons_succ, List.set_cons_zero]; with_reducible exact rfl)
    ((conv => lhs; simp only [Nat.reduceAdd]); try with_reducible exact rfl)
    rotate_left
    · refine settle_store _ _ rfl (cs := #[.int .i64 s.f, .int .i64 s.p, .int .i64 s.u, .slice A3 s.sn c3, .slice B3 s.ln d3, .int .i64 s.k, .bool true]) rfl rfl (show Two _ (stC st0) (evC ev0) _ from hS).1 rfl (by kernel_rfl) (by simp [Value.oneCell']) ?_
      intro w9 hB9 hC9
      exact ⟨rfl, hC9.mono (fun b e => .inl e), ⟨hB9, (show Two _ (stC st0) (evC ev0) _ from hS).2.chg hC9 (fun e => Nat.succ_ne_self _ e)⟩, trivial⟩
    have hv : v = undef := hv
    subst hv
    repeat (first | (refine y_plain (TwoB (w.heap.size + 2)) (w4) rfl rfl (f := ?_) (a2 := ?_) (k2 := ?_) (wanted_none rfl) rfl rfl (fun w hC hG => ?_) ?_ ?_ ?_ rfl; rotate_left 3; (clear hG; first | (go_simp; done) | (go_simp; with_reducible rfl) | (simp [*, go_sem, ↓IntWalk.iteOmega]; done) | (simp [*, go_sem, ↓IntWalk.iteOmega]; with_reducible rfl)); (simp only [Act.put, List.setIfInBounds_toArray, List.set_cons_succ, List.set_cons_zero]; with_reducible exact rfl); ((conv => lhs; simp only [Nat.reduceAdd]); try with_reducible exact rfl)) | (refine y_pass (a2 := ?_) (k2 := ?_) (wanted_no rfl rfl rfl rfl) ?_ ?_ ?_ rfl; rotate_left 2; (simp only [Act.put, List.setIfInBounds_toArray, List.set_cons_succ, List.set_cons_zero]; with_reducible exact rfl); ((conv => lhs; simp only [Nat.reduceAdd]); try with_reducible exact rfl)) | (refine y_plain (TwoB (w.heap.size + 2)) (w4) rfl rfl (f := ?_) (a2 := ?_) (k2 := ?_) (wanted_yes rfl rfl rfl) rfl rfl (fun w hC hG => ?_) ?_ ?_ ?_ rfl; rotate_left 3; (clear hG; first | (go_simp; done) | (go_simp; with_reducible rfl) | (simp [*, go_sem, ↓IntWalk.iteOmega]; done) | (simp [*, go_sem, ↓IntWalk.iteOmega]; with_reducible rfl)); (simp only [Act.put, List.setIfInBounds_toArray, List.set_cons_succ, List.set_cons_zero]; with_reducible exact rfl); ((conv => lhs; simp only [Nat.reduceAdd]); try with_reducible exact rfl)))
    refine y_major (TwoB (w.heap.size + 2)) (w4) rfl rfl (a2 := ?_) (k2 := ?_) (wanted_none rfl) rfl (⟨undef, rfl⟩) (fun _ _ _ _ _ _ => trivial) (fun v w ob h => Two.alloc h ob) (fun w hC hG hS => ?_) (fun v => ?_) ?_ (fun v hv => ?_) rfl
    rotate_left 3
    (simp only [Act.put, List.setIfInBounds_toArray, List.set_cons_succ, List.set_cons_zero]; with_reducible exact rfl)
    ((conv => lhs; simp only [Nat.reduceAdd]); try with_reducible exact rfl)
    rotate_left
    · refine settle_store _ _ rfl (cs := #[.int .i64 3, .int .i64 0, .int .i64 0, .int .i64 0, .slice none 0 0, .int .i64 1, .int .i64 0]) rfl rfl (show Two _ #[.int .i64 s.f, .int .i64 s.p, .int .i64 s.u, .slice A3 s.sn c3, .slice B3 s.ln d3, .int .i64 s.k, .bool true] (evC ev0) _ from hS).2 rfl (by kernel_rfl) (by simp [Value.oneCell']) ?_
      intro w9 hB9 hC9
      exact ⟨rfl, hC9.mono (fun b e => .inr e), ⟨(show Two _ #[.int .i64 s.f, .int .i64 s.p, .int .i64 s.u, .slice A3 s.sn c3, .slice B3 s.ln d3, .int .i64 s.k, .bool true] (evC ev0) _ from hS).1.chg hC9 (fun e => Nat.succ_ne_self _ (Eq.symm e)), hB9⟩, trivial⟩
    have hv : v = undef := hv
    subst hv
    repeat (first | (refine y_plain (TwoB (w.heap.size + 2)) (w4) rfl rfl (f := ?_) (a2 := ?_) (k2 := ?_) (wanted_none rfl) rfl rfl (fun w hC hG => ?_) ?_ ?_ ?_ rfl; rotate_left 3; (clear hG; first | (go_simp; done) | (go_simp; with_reducible rfl) | (simp [*, go_sem, ↓IntWalk.iteOmega]; done) | (simp [*, go_sem, ↓IntWalk.iteOmega]; with_reducible rfl)); (simp only [Act.put, List.setIfInBounds_toArray, List.set_cons_succ, List.set_cons_zero]; with_reducible exact rfl); ((conv => lhs; simp only [Nat.reduceAdd]); try with_reducible exact rfl)) | (refine y_pass (a2 := ?_) (k2 := ?_) (wanted_no rfl rfl rfl rfl) ?_ ?_ ?_ rfl; rotate_left 2; (simp only [Act.put, List.setIfInBounds_toArray, List.set_cons_succ, List.set_cons_zero]; with_reducible exact rfl); ((conv => lhs; simp only [Nat.reduceAdd]); try with_reducible exact rfl)) | (refine y_plain (TwoB (w.heap.size + 2)) (w4) rfl rfl (f := ?_) (a2 := ?_) (k2 := ?_) (wanted_yes rfl rfl rfl) rfl rfl (fun w hC hG => ?_) ?_ ?_ ?_ rfl; rotate_left 3; (clear hG; first | (go_simp; done) | (go_simp; with_reducible rfl) | (simp [*, go_sem, ↓IntWalk.iteOmega]; done) | (simp [*, go_sem, ↓IntWalk.iteOmega]; with_reducible rfl)); (simp only [Act.put, List.setIfInBounds_toArray, List.set_cons_succ, List.set_cons_zero]; with_reducible exact rfl); ((conv => lhs; simp only [Nat.reduceAdd]); try with_reducible exact rfl)))
    refine y_end (TwoB (w.heap.size + 2)) w4 rfl rfl (fun w9 hC9 hS9 _ => ?_)
    have h2 : Two (w.heap.size + 2) #[.int .i64 s.f, .int .i64 s.p, .int .i64 s.u, .slice A3 s.sn c3, .slice B3 s.ln d3, .int .i64 s.k, .bool true] #[.int .i64 3, .int .i64 0, .int .i64 0, .int .i64 0, .slice none 0 0, .int .i64 1, .int .i64 0] w9 := hS9
    obtain ⟨t0, t1, t2, t3, t4, t5, t6⟩ := cell7 h2.1
    obtain ⟨v0, v1, v2, v3, v4, v5, v6⟩ := cell7 h2.2
    have hsz := hC9.size
    have hso9 : StOwn w9 w2.heap.size { s with sA := A3, sc := c3, lA := B3, lc := d3, wt := true } := by
      have h1 := Hz2.out
      exact ⟨Hso4.out.os.chg hC9 (fun g hg e => by have := (Hso4.out.os.lt hg).1; rcases e with e | e <;> omega), Hso4.out.ol.chg hC9 (fun g hg e => by have := (Hso4.out.ol.lt hg).1; rcases e with e | e <;> omega), Hso4.out.ap, Hso4.out.sn, Hso4.out.ln⟩
    have Hres : Hid (RsPost w s (.returned (.tuple #[.agg #[.int .i64 s.f, .int .i64 s.p, .int .i64 s.u, .slice A3 s.sn c3, .slice B3 s.ln d3, .int .i64 s.k, .bool true], .agg #[.int .i64 3, .int .i64 0, .int .i64 0, .int .i64 0, .slice none 0 0, .int .i64 1, .int .i64 0]])) w9) :=
      ⟨{ s with sA := A3, sc := c3, lA := B3, lc := d3, wt := true }, endEv 0 1 0, rfl, hso9.at_, Hc04.out.trans2 hC9 (fun b e => .inr (by rcases e with e | e <;> omega)), fun b hb => (by have := (hso9.os.lt (rowB_own hb)).1; have := Hz2.out; omega), fun b hb => (by have := (hso9.ol.lt (rowB_own hb)).1; have := Hz2.out; omega), .inl rfl⟩
    clear g0 g1 g2 g3 g4 g5 g6 hso9 hC9 hS9 h2
    go_wp2_with fail
    exact bodyPost_ret (v := .tuple #[.agg #[.int .i64 s.f, .int .i64 s.p, .int .i64 s.u, .slice A3 s.sn c3, .slice B3 s.ln d3, .int .i64 s.k, .bool true], .agg #[.int .i64 3, .int .i64 0, .int .i64 0, .int .i64 0, .slice none 0 0, .int .i64 1, .int .i64 0]]) (by simp [results, Try.results49, go_sem, t0, t1, t2, t3, t4, t5, t6, v0, v1, v2, v3, v4, v5, v6]) rfl Hres.out
  | true =>
    have hq3 := Hq2.out.non Hc23.out
    have qa : w3.cell? ⟨w.heap.size + 1, 0, none⟩ = some (.int .i64 er) := hq3.cell 0
    have qal := hq3.lt
    have Hq3 := Lib.hid hq3
    clear hq3
    by_cases her : er = 0
    · subst her
      obtain ⟨fi, pi, f, r, hm, hn1⟩ := Hok.out rfl
      have hz0 : 1 ≤ s.sn := hn1 Hwt.out
      have hpb : 0 ≤ s.p ∧ s.p ≤ 256 := by
        obtain ⟨_, _, f9, _, hKf⟩ := HK.out.get hm.fl
        have h8 : f9 = f := by have := hKf.gf; rw [hm.gf] at this; exact (Option.some.inj this).symm
        subst h8
        have := hKf.ok.code
        have := hKf.cn
        have := hm.pl
        have := hm.hp
        omega
      have hs32 : s.sn ≤ 1000 := Hs.out.sn
      obtain ⟨m, hmm⟩ : ∃ m, s.sn = m + 1 := ⟨s.sn - 1, by omega⟩
      have hws : Win rkN w4 (.slice A3 s.sn c3) s.sn (iv s.S) := Hso4.out.win.ws
      obtain ⟨sad, v, hA3, hSv, hsc⟩ := hws.rds.getI (k := m) (by omega)
      subst hA3
      have e1 : (s.sn : Int) - 1 = (m : Int) := by omega
      have e2 : IntKind.i64.wrap ((s.sn : Int) - 1) = (m : Int) := by rw [IntKind.wrap_i64]; omega
      have e3 : IntKind.i64.wrap (m : Int) = (m : Int) := by rw [IntKind.wrap_i64]; omega
      have m1 : (m : Int) < s.sn := by omega
      have m2 : m < s.sn := by omega
      have m3 : (0 : Int) ≤ (m : Int) := by omega
      have hpw : IntKind.i64.wrap (s.p + 1) = s.p + 1 := by rw [IntKind.wrap_i64]; omega
      have hws2 := hws
      obtain ⟨fz, hws5, hS5⟩ := hws2.cellI rfl m2 (.int .i64 va)
      have hsz : sad.block < w4.heap.size := by have := World.block_lt_of_cell? w4 _ hsc; rw [block_add] at this; exact this
      have hbs : w2.heap.size ≤ sad.block := (Hso4.out.os.lt (g := sad.block) rfl).1
      have h24 := Hz2.out
      have x3' : w4.cell? ⟨w.heap.size, 3, none⟩ = some (.slice (some sad) s.sn c3) := Hb4.out.cell 3
      have y1 : w4.cell? ⟨w.heap.size + 1, 1, none⟩ = some (.int .i64 va) := Hq4.out.cell 1
      have y6 : w4.cell? ⟨w.heap.size, 6, none⟩ = some (.bool true) := Hb4.out.cell 6
      have y0 : w4.cell? ⟨w.heap.size + 1, 0, none⟩ = some (.int .i64 0) := Hq4.out.cell 0
      have bl4 := Hb4.out.lt
      have ql4 := Hq4.out.lt
      obtain ⟨w5, hw5⟩ : ∃ w5, w4.setCell (sad.add m) (.int .i64 va) = w5 := ⟨_, rfl⟩
      rw [hw5] at hws5 hS5
      have hb5 := Hb4.out.chg hS5 (fun e => by have e : w.heap.size = sad.block := e; omega)
      have p1 : w5.cell? ⟨w.heap.size, 1, none⟩ = some (.int .i64 s.p) := hb5.cell 1
      have p6 : w5.cell? ⟨w.heap.size, 6, none⟩ = some (.bool true) := hb5.cell 6
      have pf1 := hb5.frozen 1
      have pf6 := hb5.frozen 6
      have bl5 := hb5.lt
      obtain ⟨w7, hw7⟩ : ∃ w7, (w5.setCell ⟨w.heap.size, 1, none⟩ (.int .i64 (s.p + 1))).setCell ⟨w.heap.size, 6, none⟩ (.bool false) = w7 := ⟨_, rfl⟩
      have hS7 : Chg (fun b => b = w.heap.size) w5 w7 := hw7 ▸ ((Chg.refl _ _).set1 1 _).set1 6 _
      have hb7 := (hb5.put 1 (.int .i64 (s.p + 1))).put 6 (.bool false)
      rw [hw7] at hb7
      simp only [List.setIfInBounds_toArray, List.set_cons_succ, List.set_cons_zero] at hb7
      have bl7 := hb7.lt
      have h87 := ((H84.out.chg hS5 (fun e => by have e : w.heap.size + 2 = sad.block := e; omega)).chg hS7 (fun e => by have e : w.heap.size + 2 = w.heap.size := e; omega))
      have h97 := ((H94.out.chg hS5 (fun e => by have e : w.heap.size + 3 = sad.block := e; omega)).chg hS7 (fun e => by have e : w.heap.size + 3 = w.heap.size := e; omega))
      have hw4e := Hw4.out
      unfold set7 at hw4e
      obtain ⟨n0, n1, n2, n3, n4, n5, n6⟩ := cell7 hb7
      obtain ⟨r0, r1, r2, r3, r4, r5, r6⟩ := cell7 h87
      have rl7 := h87.lt
      obtain ⟨f0, f1, f2, f3, f4, f5, f6⟩ : w7.frozen? ⟨w.heap.size + 2, 0, none⟩ = false ∧ w7.frozen? ⟨w.heap.size + 2, 1, none⟩ = false ∧ w7.frozen? ⟨w.heap.size + 2, 2, none⟩ = false ∧ w7.frozen? ⟨w.heap.size + 2, 3, none⟩ = false ∧ w7.frozen? ⟨w.heap.size + 2, 4, none⟩ = false ∧ w7.frozen? ⟨w.heap.size + 2, 5, none⟩ = false ∧ w7.frozen? ⟨w.heap.size + 2, 6, none⟩ = false := ⟨h87.frozen 0, h87.frozen 1, h87.frozen 2, h87.frozen 3, h87.frozen 4, h87.frozen 5, h87.frozen 6⟩
      obtain ⟨w8, hw8⟩ : ∃ w8, set7 w7 (w.heap.size + 2) (.int .i64 s.f) (.int .i64 (s.p + 1)) (.int .i64 s.u) (.slice (some sad) s.sn c3) (.slice B3 s.ln d3) (.int .i64 s.k) (.bool false) = w8 := ⟨_, rfl⟩
      have hS8 : Chg (fun b => b = w.heap.size + 2) w7 w8 := hw8 ▸ set7_chg _ _ _ _ _ _ _ _ _
      have hB8 := set7_blk (show Blk w7 (w.heap.size + 2) 95 #[.int .i64 0, .int .i64 0, .int .i64 0, .slice none 0 0, .slice none 0 0, .int .i64 0, .bool false] from h87) (.int .i64 s.f) (.int .i64 (s.p + 1)) (.int .i64 s.u) (.slice (some sad) s.sn c3) (.slice B3 s.ln d3) (.int .i64 s.k) (.bool false)
      rw [hw8] at hB8
      have h98 := h97.chg hS8 (fun e => by have e : w.heap.size + 3 = w.heap.size + 2 := e; omega)
      have rl8 := h98.lt
      obtain ⟨u0, u1, u2, u3, u4, u5, u6⟩ := cell7 h98
      obtain ⟨k0, k1, k2, k3, k4, k5, k6⟩ : w8.frozen? ⟨w.heap.size + 3, 0, none⟩ = false ∧ w8.frozen? ⟨w.heap.size + 3, 1, none⟩ = false ∧ w8.frozen? ⟨w.heap.size + 3, 2, none⟩ = false ∧ w8.frozen? ⟨w.heap.size + 3, 3, none⟩ = false ∧ w8.frozen? ⟨w.heap.size + 3, 4, none⟩ = false ∧ w8.frozen? ⟨w.heap.size + 3, 5, none⟩ = false ∧ w8.frozen? ⟨w.heap.size + 3, 6, none⟩ = false := ⟨h98.frozen 0, h98.frozen 1, h98.frozen 2, h98.frozen 3, h98.frozen 4, h98.frozen 5, h98.frozen 6⟩
      obtain ⟨w9, hw9⟩ : ∃ w9, set7 w8 (w.heap.size + 3) (.int .i64 0) (.int .i64 0) (.int .i64 0) (.int .i64 0) (.slice none 0 0) (.int .i64 0) (.int .i64 0) = w9 := ⟨_, rfl⟩
      have hS9 : Chg (fun b => b = w.heap.size + 3) w8 w9 := hw9 ▸ set7_chg _ _ _ _ _ _ _ _ _
      have hB9 := set7_blk (show Blk w8 (w.heap.size + 3) 100 #[.int .i64 0, .int .i64 0, .int .i64 0, .int .i64 0, .slice none 0 0, .int .i64 0, .int .i64 0] from h98) (.int .i64 0) (.int .i64 0) (.int .i64 0) (.int .i64 0) (.slice none 0 0) (.int .i64 0) (.int .i64 0)
      rw [hw9] at hB9
      obtain ⟨t0, t1, t2, t3, t4, t5, t6⟩ := cell7 (hB8.chg hS9 (fun e => by have e : w.heap.size + 2 = w.heap.size + 3 := e; omega))
      obtain ⟨v0, v1, v2, v3, v4, v5, v6⟩ := cell7 hB9
      have hS59 : Chg (fun b => b = w.heap.size ∨ b = w.heap.size + 2 ∨ b = w.heap.size + 3) w5 w9 := ((hS7.mono (fun b e => .inl e)).trans (hS8.mono (fun b e => .inr (.inl e)))).trans (hS9.mono (fun b e => .inr (.inr e)))
      have hfar : ∀ b, w2.heap.size ≤ b → ¬ (b = w.heap.size ∨ b = w.heap.size + 2 ∨ b = w.heap.size + 3) := fun b hb e => by omega
      have hres : RsPost w s (.returned (.tuple #[.agg #[.int .i64 s.f, .int .i64 (s.p + 1), .int .i64 s.u, .slice (some sad) s.sn c3, .slice B3 s.ln d3, .int .i64 s.k, .bool false], .agg #[.int .i64 0, .int .i64 0, .int .i64 0, .int .i64 0, .slice none 0 0, .int .i64 0, .int .i64 0]])) w9 := by
        have hl := Hso4.out.ol
        refine ⟨{ s with p := s.p + 1, sA := (some sad), sc := c3, S := s.S.set m va, lA := B3, lc := d3, wt := false }, ev0, rfl, ⟨?_, ?_, Hs.out.sn, Hs.out.ln⟩, (((Hc04.out.trans2 hS5 (fun b e => .inr (by have e : b = sad.block := e; omega)))).trans2 hS59 (fun b e => .inr (by omega))), fun b hb => (by have := (Hso4.out.os.lt (rowB_own hb)).1; omega), fun b hb => (by have := (Hso4.out.ol.lt (rowB_own hb)).1; omega), .inr ⟨rfl, rfl, rfl, rfl⟩⟩
        · show Rds w9 1 (some sad) s.sn (iv (s.S.set m va))
          rw [show iv (s.S.set m va) = (iv s.S).set m (.int .i64 va) by simp [iv, List.map_set]]
          exact (hws5.chg hS59 (fun b hb e => hfar b (by have hb : sad.block = b := by simpa [Value.ownBlock] using hb
                                                         omega) e)).rds
        · have hap := Hso4.out.ap sad.block rfl
          exact ((hl.chg hS5 (fun g hg e => hap (by rw [show g = sad.block from e] at hg; exact hg))).chg hS59 (fun g hg e => hfar g (hl.lt hg).1 e)).rds
      have Hres := Lib.hid hres
      have Hw9 := Lib.hid hw9
      unfold set7 at hw8
      have Hmm := Lib.hid hmm
      clear hmm
      clear hw9 hS59 hfar hres hS9 hB9 hB8 hS8 hS7 hb7 h87 h97 h98 hS5 hb5 hws hws2 hws5
      go_wp2_with fail
      rw [set7_name, Hw9.out]
      exact bodyPost_ret (v := .tuple #[.agg #[.int .i64 s.f, .int .i64 (s.p + 1), .int .i64 s.u, .slice (some sad) s.sn c3, .slice B3 s.ln d3, .int .i64 s.k, .bool false], .agg #[.int .i64 0, .int .i64 0, .int .i64 0, .int .i64 0, .slice none 0 0, .int .i64 0, .int .i64 0]]) (by simp [results, Try.results49, go_sem, t0, t1, t2, t3, t4, t5, t6, v0, v1, v2, v3, v4, v5, v6]) rfl Hres.out
    · have her2 : (er == 0) = false := beq_eq_false_iff_ne.2 her
      clear her
      go_wp2_with fail
      rw [set7_name, Hw4.out]
      have xs : ∀ wx, Chg (TwoB (w.heap.size + 2)) w4 wx → Blk wx w.heap.size 95 #[.int .i64 s.f, .int .i64 s.p, .int .i64 s.u, .slice A3 s.sn c3, .slice B3 s.ln d3, .int .i64 s.k, .bool true] := fun wx h => Hb4.out.chg h (fun e => by rcases e with e | e <;> omega)
      have g0 : ∀ wx, Chg (TwoB (w.heap.size + 2)) w4 wx → wx.cell? ⟨w.heap.size, 0, none⟩ = some (.int .i64 s.f) := fun wx h => (xs wx h).cell 0
      have g1 : ∀ wx, Chg (TwoB (w.heap.size + 2)) w4 wx → wx.cell? ⟨w.heap.size, 1, none⟩ = some (.int .i64 s.p) := fun wx h => (xs wx h).cell 1
      have g2 : ∀ wx, Chg (TwoB (w.heap.size + 2)) w4 wx → wx.cell? ⟨w.heap.size, 2, none⟩ = some (.int .i64 s.u) := fun wx h => (xs wx h).cell 2
      have g3 : ∀ wx, Chg (TwoB (w.heap.size + 2)) w4 wx → wx.cell? ⟨w.heap.size, 3, none⟩ = some (.slice A3 s.sn c3) := fun wx h => (xs wx h).cell 3
      have g4 : ∀ wx, Chg (TwoB (w.heap.size + 2)) w4 wx → wx.cell? ⟨w.heap.size, 4, none⟩ = some (.slice B3 s.ln d3) := fun wx h => (xs wx h).cell 4
      have g5 : ∀ wx, Chg (TwoB (w.heap.size + 2)) w4 wx → wx.cell? ⟨w.heap.size, 5, none⟩ = some (.int .i64 s.k) := fun wx h => (xs wx h).cell 5
      have g6 : ∀ wx, Chg (TwoB (w.heap.size + 2)) w4 wx → wx.cell? ⟨w.heap.size, 6, none⟩ = some (.bool true) := fun wx h => (xs wx h).cell 6
      have qs : ∀ wx, Chg (TwoB (w.heap.size + 2)) w4 wx → Blk wx (w.heap.size + 1) 30 #[.int .i64 er, .int .i64 va] := fun wx h => Hq4.out.chg h (fun e => by rcases e with e | e <;> omega)
      have q0 : ∀ wx, Chg (TwoB (w.heap.size + 2)) w4 wx → wx.cell? ⟨w.heap.size + 1, 0, none⟩ = some (.int .i64 er) := fun wx h => (qs wx h).cell 0
      have q1 : ∀ wx, Chg (TwoB (w.heap.size + 2)) w4 wx → wx.cell? ⟨w.heap.size + 1, 1, none⟩ = some (.int .i64 va) := fun wx h => (qs wx h).cell 1
      have H8 := H84
      have H9 := H94
      clear xs qs x0 x1 x2 x3 x4 x5 x6 z0 z1 z2 z3 z4 z5 z6 qa qal
      refine y_region _ (TwoB (w.heap.size + 2)) [3, 4] [] (fun i _ _ wx => if i = 3 then Two (w.heap.size + 2) #[.int .i64 s.f, .int .i64 s.p, .int .i64 s.u, .slice A3 s.sn c3, .slice B3 s.ln d3, .int .i64 s.k, .bool true] (evC ev0) wx else if i = 4 then Two (w.heap.size + 2) #[.int .i64 s.f, .int .i64 s.p, .int .i64 s.u, .slice A3 s.sn c3, .slice B3 s.ln d3, .int .i64 s.k, .bool true] #[.int .i64 3, .int .i64 0, .int .i64 0, .int .i64 0, .slice none 0 0, .int .i64 er, .int .i64 va] wx else Two (w.heap.size + 2) (stC st0) (evC ev0) wx) (fun _ _ _ _ => True) (fun i _ v => if i = 99 then v = .agg #[.int .i64 3, .int .i64 0, .int .i64 0, .int .i64 0, .slice none 0 0, .int .i64 er, .int .i64 va] else v = undef) (Two (w.heap.size + 2) (stC st0) (evC ev0)) (by kernel_rfl) (okB_of_F _ (by kernel_rfl)) (fun b hb => by have h1 := H8.out.lt; have h2 := H9.out.lt; rcases hb with e | e <;> (rw [e]; omega)) ⟨H8.out, H9.out⟩ (fun _ _ h => h.alloc _) ?_
      repeat (first | (refine y_plain (TwoB (w.heap.size + 2)) (w4) rfl rfl (f := ?_) (a2 := ?_) (k2 := ?_) (wanted_none rfl) rfl rfl (fun w hC hG => ?_) ?_ ?_ ?_ rfl; rotate_left 3; (clear hG; first | (go_simp; done) | (go_simp; with_reducible rfl) | (simp [*, go_sem, ↓IntWalk.iteOmega]; done) | (simp [*, go_sem, ↓IntWalk.iteOmega]; with_reducible rfl)); (simp only [Act.put, List.setIfInBounds_toArray, List.set_cons_succ, List.set_cons_zero]; with_reducible exact rfl); ((conv => lhs; simp only [Nat.reduceAdd]); try with_reducible exact rfl)) | (refine y_pass (a2 := ?_) (k2 := ?_) (wanted_no rfl rfl rfl rfl) ?_ ?_ ?_ rfl; rotate_left 2; (simp only [Act.put, List.setIfInBounds_toArray, List.set_cons_succ, List.set_cons_zero]; with_reducible exact rfl); ((conv => lhs; simp only [Nat.reduceAdd]); try with_reducible exact rfl)) | (refine y_plain (TwoB (w.heap.size + 2)) (w4) rfl rfl (f := ?_) (a2 := ?_) (k2 := ?_) (wanted_yes rfl rfl rfl) rfl rfl (fun w hC hG => ?_) ?_ ?_ ?_ rfl; rotate_left 3; (clear hG; first | (go_simp; done) | (go_simp; with_reducible rfl) | (simp [*, go_sem, ↓IntWalk.iteOmega]; done) | (simp [*, go_sem, ↓IntWalk.iteOmega]; with_reducible rfl)); (simp only [Act.put, List.setIfInBounds_toArray, List.set_cons_succ, List.set_cons_zero]; with_reducible exact rfl); ((conv => lhs; simp only [Nat.reduceAdd]); try with_reducible exact rfl)))
      refine y_major (TwoB (w.heap.size + 2)) (w4) rfl rfl (a2 := ?_) (k2 := ?_) (wanted_none rfl) rfl (⟨undef, rfl⟩) (fun _ _ _ _ _ _ => trivial) (fun v w ob h => Two.alloc h ob) (fun w hC hG hS => ?_) (fun v => ?_) ?_ (fun v hv => ?_) rfl
      rotate_left 3
      (simp only [Act.put, List.setIfInBounds_toArray, List.set_cons_succ, List.set_cons_zero]; with_reducible exact rfl)
      ((conv => lhs; simp only [Nat.reduceAdd]); try with_reducible exact rfl)
      rotate_left
      · refine settle_store _ _ rfl (cs := #[.int .i64 s.f, .int .i64 s.p, .int .i64 s.u, .slice A3 s.sn c3, .slice B3 s.ln d3, .int .i64 s.k, .bool true]) rfl rfl (show Two _ (stC st0) (evC ev0) _ from hS).1 rfl (by kernel_rfl) (by simp [Value.oneCell']) ?_
        intro w9 hB9 hC9
        exact ⟨rfl, hC9.mono (fun b e => .inl e), ⟨hB9, (show Two _ (stC st0) (evC ev0) _ from hS).2.chg hC9 (fun e => Nat.succ_ne_self _ e)⟩, trivial⟩
      have hv : v = undef := hv
      subst hv
      repeat (first | (refine y_plain (TwoB (w.heap.size + 2)) (w4) rfl rfl (f := ?_) (a2 := ?_) (k2 := ?_) (wanted_none rfl) rfl rfl (fun w hC hG => ?_) ?_ ?_ ?_ rfl; rotate_left 3; (clear hG; first | (go_simp; done) | (go_simp; with_reducible rfl) | (simp [*, go_sem, ↓IntWalk.iteOmega]; done) | (simp [*, go_sem, ↓IntWalk.iteOmega]; with_reducible rfl)); (simp only [Act.put, List.setIfInBounds_toArray, List.set_cons_succ, List.set_cons_zero]; with_reducible exact rfl); ((conv => lhs; simp only [Nat.reduceAdd]); try with_reducible exact rfl)) | (refine y_pass (a2 := ?_) (k2 := ?_) (wanted_no rfl rfl rfl rfl) ?_ ?_ ?_ rfl; rotate_left 2; (simp only [Act.put, List.setIfInBounds_toArray, List.set_cons_succ, List.set_cons_zero]; with_reducible exact rfl); ((conv => lhs; simp only [Nat.reduceAdd]); try with_reducible exact rfl)) | (refine y_plain (TwoB (w.heap.size + 2)) (w4) rfl rfl (f := ?_) (a2 := ?_) (k2 := ?_) (wanted_yes rfl rfl rfl) rfl rfl (fun w hC hG => ?_) ?_ ?_ ?_ rfl; rotate_left 3; (clear hG; first | (go_simp; done) | (go_simp; with_reducible rfl) | (simp [*, go_sem, ↓IntWalk.iteOmega]; done) | (simp [*, go_sem, ↓IntWalk.iteOmega]; with_reducible rfl)); (simp only [Act.put, List.setIfInBounds_toArray, List.set_cons_succ, List.set_cons_zero]; with_reducible exact rfl); ((conv => lhs; simp only [Nat.reduceAdd]); try with_reducible exact rfl)))
      refine y_major (TwoB (w.heap.size + 2)) (w4) rfl rfl (a2 := ?_) (k2 := ?_) (wanted_none rfl) rfl (⟨undef, rfl⟩) (fun _ _ _ _ _ _ => trivial) (fun v w ob h => Two.alloc h ob) (fun w hC hG hS => ?_) (fun v => ?_) ?_ (fun v hv => ?_) rfl
      rotate_left 3
      (simp only [Act.put, List.setIfInBounds_toArray, List.set_cons_succ, List.set_cons_zero]; with_reducible exact rfl)
      ((conv => lhs; simp only [Nat.reduceAdd]); try with_reducible exact rfl)
      rotate_left
      · refine settle_store _ _ rfl (cs := #[.int .i64 3, .int .i64 0, .int .i64 0, .int .i64 0, .slice none 0 0, .int .i64 er, .int .i64 va]) rfl rfl (show Two _ #[.int .i64 s.f, .int .i64 s.p, .int .i64 s.u, .slice A3 s.sn c3, .slice B3 s.ln d3, .int .i64 s.k, .bool true] (evC ev0) _ from hS).2 rfl (by kernel_rfl) (by simp [Value.oneCell']) ?_
        intro w9 hB9 hC9
        exact ⟨rfl, hC9.mono (fun b e => .inr e), ⟨(show Two _ #[.int .i64 s.f, .int .i64 s.p, .int .i64 s.u, .slice A3 s.sn c3, .slice B3 s.ln d3, .int .i64 s.k, .bool true] (evC ev0) _ from hS).1.chg hC9 (fun e => Nat.succ_ne_self _ (Eq.symm e)), hB9⟩, trivial⟩
      have hv : v = undef := hv
      subst hv
      repeat (first | (refine y_plain (TwoB (w.heap.size + 2)) (w4) rfl rfl (f := ?_) (a2 := ?_) (k2 := ?_) (wanted_none rfl) rfl rfl (fun w hC hG => ?_) ?_ ?_ ?_ rfl; rotate_left 3; (clear hG; first | (go_simp; done) | (go_simp; with_reducible rfl) | (simp [*, go_sem, ↓IntWalk.iteOmega]; done) | (simp [*, go_sem, ↓IntWalk.iteOmega]; with_reducible rfl)); (simp only [Act.put, List.setIfInBounds_toArray, List.set_cons_succ, List.set_cons_zero]; with_reducible exact rfl); ((conv => lhs; simp only [Nat.reduceAdd]); try with_reducible exact rfl)) | (refine y_pass (a2 := ?_) (k2 := ?_) (wanted_no rfl rfl rfl rfl) ?_ ?_ ?_ rfl; rotate_left 2; (simp only [Act.put, List.setIfInBounds_toArray, List.set_cons_succ, List.set_cons_zero]; with_reducible exact rfl); ((conv => lhs; simp only [Nat.reduceAdd]); try with_reducible exact rfl)) | (refine y_plain (TwoB (w.heap.size + 2)) (w4) rfl rfl (f := ?_) (a2 := ?_) (k2 := ?_) (wanted_yes rfl rfl rfl) rfl rfl (fun w hC hG => ?_) ?_ ?_ ?_ rfl; rotate_left 3; (clear hG; first | (go_simp; done) | (go_simp; with_reducible rfl) | (simp [*, go_sem, ↓IntWalk.iteOmega]; done) | (simp [*, go_sem, ↓IntWalk.iteOmega]; with_reducible rfl)); (simp only [Act.put, List.setIfInBounds_toArray, List.set_cons_succ, List.set_cons_zero]; with_reducible exact rfl); ((conv => lhs; simp only [Nat.reduceAdd]); try with_reducible exact rfl)))
      refine y_end (TwoB (w.heap.size + 2)) w4 rfl rfl (fun w9 hC9 hS9 _ => ?_)
      have h2 : Two (w.heap.size + 2) #[.int .i64 s.f, .int .i64 s.p, .int .i64 s.u, .slice A3 s.sn c3, .slice B3 s.ln d3, .int .i64 s.k, .bool true] #[.int .i64 3, .int .i64 0, .int .i64 0, .int .i64 0, .slice none 0 0, .int .i64 er, .int .i64 va] w9 := hS9
      obtain ⟨t0, t1, t2, t3, t4, t5, t6⟩ := cell7 h2.1
      obtain ⟨v0, v1, v2, v3, v4, v5, v6⟩ := cell7 h2.2
      have hsz := hC9.size
      have hso9 : StOwn w9 w2.heap.size { s with sA := A3, sc := c3, lA := B3, lc := d3, wt := true } := by
        have h1 := Hz2.out
        exact ⟨Hso4.out.os.chg hC9 (fun g hg e => by have := (Hso4.out.os.lt hg).1; rcases e with e | e <;> omega), Hso4.out.ol.chg hC9 (fun g hg e => by have := (Hso4.out.ol.lt hg).1; rcases e with e | e <;> omega), Hso4.out.ap, Hso4.out.sn, Hso4.out.ln⟩
      have Hres : Hid (RsPost w s (.returned (.tuple #[.agg #[.int .i64 s.f, .int .i64 s.p, .int .i64 s.u, .slice A3 s.sn c3, .slice B3 s.ln d3, .int .i64 s.k, .bool true], .agg #[.int .i64 3, .int .i64 0, .int .i64 0, .int .i64 0, .slice none 0 0, .int .i64 er, .int .i64 va]])) w9) :=
        ⟨{ s with sA := A3, sc := c3, lA := B3, lc := d3, wt := true }, ⟨3, 0, 0, 0, none, 0, 0, [], er, va⟩, rfl, hso9.at_, Hc04.out.trans2 hC9 (fun b e => .inr (by rcases e with e | e <;> omega)), fun b hb => (by have := (hso9.os.lt (rowB_own hb)).1; have := Hz2.out; omega), fun b hb => (by have := (hso9.ol.lt (rowB_own hb)).1; have := Hz2.out; omega), .inl rfl⟩
      clear q0 q1 g0 g1 g2 g3 g4 g5 g6 hso9 hC9 hS9 h2
      go_wp2_with fail
      exact bodyPost_ret (v := .tuple #[.agg #[.int .i64 s.f, .int .i64 s.p, .int .i64 s.u, .slice A3 s.sn c3, .slice B3 s.ln d3, .int .i64 s.k, .bool true], .agg #[.int .i64 3, .int .i64 0, .int .i64 0, .int .i64 0, .slice none 0 0, .int .i64 er, .int .i64 va]]) (by simp [results, Try.results49, go_sem, t0, t1, t2, t3, t4, t5, t6, v0, v1, v2, v3, v4, v5, v6]) rfl Hres.out
end Go.Proofs.Yteinbdifncdaiaa
