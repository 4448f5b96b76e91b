/-
  gleanerref4.(*Known).step, whatever the instruction.
  gleanerref4.(*Known).Run.
-/
import Derived.Test.YteinbdifncdaiaaTdDeepStepA
import Derived.Test.YteinbdifncdaiaaTdDeepStepB
import Derived.Test.YteinbdifncdaiaaTdDeepStepC
import Derived.Test.YteinbdifncdaiaaTdDeepStepE
import Derived.Test.YteinbdifncdaiaaTdDeepStepG
import Derived.Test.YteinbdifncdaiaaTdDeepStepI
import Derived.Test.YteinbdifncdaiaaTdDeepStepK
import Derived.Test.YteinbdifncdaiaaTdDeepStepL
import Derived.Test.YteinbdifncdaiaaTdDeepStepM
import Derived.Test.YteinbdifncdaiaaTdDeepStepN
namespace Go.Proofs.Yteinbdifncdaiaa
open Go.RowKit
set_option linter.unusedVariables false
set_option linter.unusedSimpArgs false

theorem refStep_any (w : World) (b : Nat) (j : Jb) (dA : Option Addr) (dc : Nat) (R : List DRow) (hk : KnAt w b j dA dc R) (sb : Nat) (s : Stt) (hbx : Blk w sb 95 (stC s)) (hst : StW w s) (fi pi : Nat) (f : Fn) (r : DRow) (hm : MayP j R s fi pi f r) (hwt : s.wt = false) (deep : Int) :
    Calls Try.prog 65 #[.pointer (some ⟨b, 0, none⟩), .pointer (some ⟨sb, 0, none⟩), .int .i64 deep] w (SpPost w j R sb deep s) := by
  obtain ⟨fad, dad, f2, r2, hKf⟩ := hk.get hm.fl
  have e1 : f2 = f := by have := hKf.gf; rw [hm.gf] at this; exact (Option.some.inj this).symm
  subst e1
  have hpl : pi < f2.code.length := by have := hm.pl; have := hKf.cn; omega
  obtain ⟨⟨op, N⟩, hi⟩ : ∃ i, f2.code[pi]? = some i := ⟨_, List.getElem?_eq_getElem hpl⟩
  have hins := hKf.ok.ins _ (List.mem_of_getElem? hi)
  have h1 : 1 ≤ op := hins.1
  have h2 : op ≤ 19 := hins.2.1
  rcases op_cases op with rfl | rfl | rfl | rfl | rfl | rfl | rfl | rfl | rfl | rfl | rfl | rfl | rfl | rfl | rfl | rfl | rfl | rfl | rfl | hop | hop
  · exact refStep_1 w b j dA dc R hk sb s hbx hst fi pi f2 r hm hwt deep N hi
  · exact refStep_2 w b j dA dc R hk sb s hbx hst fi pi f2 r hm hwt deep N hi
  · exact refStep_3 w b j dA dc R hk sb s hbx hst fi pi f2 r hm hwt deep N hi
  · exact refStep_4 w b j dA dc R hk sb s hbx hst fi pi f2 r hm hwt deep N hi
  · exact refStep_5 w b j dA dc R hk sb s hbx hst fi pi f2 r hm hwt deep N hi
  · exact refStep_6 w b j dA dc R hk sb s hbx hst fi pi f2 r hm hwt deep N hi
  · exact refStep_7 w b j dA dc R hk sb s hbx hst fi pi f2 r hm hwt deep N hi
  · exact refStep_8 w b j dA dc R hk sb s hbx hst fi pi f2 r hm hwt deep N hi
  · exact refStep_9 w b j dA dc R hk sb s hbx hst fi pi f2 r hm hwt deep N hi
  · exact refStep_10 w b j dA dc R hk sb s hbx hst fi pi f2 r hm hwt deep N hi
  · exact refStep_11 w b j dA dc R hk sb s hbx hst fi pi f2 r hm hwt deep N hi
  · exact refStep_12 w b j dA dc R hk sb s hbx hst fi pi f2 r hm hwt deep N hi
  · exact refStep_13 w b j dA dc R hk sb s hbx hst fi pi f2 r hm hwt deep N hi
  · exact refStep_14 w b j dA dc R hk sb s hbx hst fi pi f2 r hm hwt deep N hi
  · exact refStep_15 w b j dA dc R hk sb s hbx hst fi pi f2 r hm hwt deep N hi
  · exact refStep_16 w b j dA dc R hk sb s hbx hst fi pi f2 r hm hwt deep N hi
  · exact refStep_17 w b j dA dc R hk sb s hbx hst fi pi f2 r hm hwt deep N hi
  · exact refStep_18 w b j dA dc R hk sb s hbx hst fi pi f2 r hm hwt deep N hi
  · exact refStep_19 w b j dA dc R hk sb s hbx hst fi pi f2 r hm hwt deep N hi
  · omega
  · omega

/-- What an event says behind a run (of k kids, so deep). -/
def RnOk (w w2 : World) (j : Jb) (deep : Int) (s s2 : Stt) (ev : Evt) : Prop :=
  ev.kind = 3 ∨ (ev.kind = 1 ∧ s2.k = s.k + 1 ∧ ev.kid = s.k ∧ 0 ≤ s.k ∧ s.k < 16 ∧ deep < 12 ∧ s2.wt = false ∧ s.u < s2.u ∧ s2.u ≤ j.fuel ∧ Win rkN w2 (.slice ev.A ev.n ev.c) ev.n (iv ev.L) ∧ ev.n ≤ 1000 ∧ ∀ b, RowB ev.A b → w.heap.size ≤ b) ∨
  (ev.kind = 2 ∧ 0 ≤ ev.kid ∧ ev.kid < s.k ∧ s2.k = s.k ∧ s2.wt = true ∧ s.u < s2.u ∧ s2.u ≤ j.fuel)
/-- What Run answers. -/
def RnPost (w : World) (j : Jb) (deep : Int) (s : Stt) (e : Ending) (w2 : World) : Prop :=
  ∃ s2 ev, e = .returned (.tuple #[.agg (stC s2), .agg (evC ev)]) ∧ StW w2 s2 ∧ Chg Non w w2 ∧ (∀ b, RowB s2.sA b → w.heap.size ≤ b) ∧ (∀ b, RowB s2.lA b → w.heap.size ≤ b) ∧ RnOk w w2 j deep s s2 ev
/-- Between two rounds: n instructions are done. -/
structure RelN (w : World) (j : Jb) (R : List DRow) (s : Stt) (n : Nat) (s2 : Stt) (wx : World) : Prop where
  box : Blk wx w.heap.size 95 (stC s2)
  win : StW wx s2
  may : ∃ fi pi f r, MayP j R s2 fi pi f r
  wt : s2.wt = false
  k : s2.k = s.k
  u : s2.u = s.u + n
  r8 : Blk wx (w.heap.size + 1) 95 (stC st0)
  r9 : Blk wx (w.heap.size + 2) 100 (evC ev0)
  chg : Chg Non w wx
  fs : ∀ b, RowB s2.sA b → w.heap.size + 3 ≤ b
  fl : ∀ b, RowB s2.lA b → w.heap.size + 3 ≤ b
theorem RelN.non {w : World} {j : Jb} {R : List DRow} {s : Stt} {n : Nat} {s2 : Stt} {wx w2 : World} (h : RelN w j R s n s2 wx) (hc : Chg Non wx w2) : RelN w j R s n s2 w2 :=
  ⟨h.box.non hc, h.win.non hc, h.may, h.wt, h.k, h.u, h.r8.non hc, h.r9.non hc, h.chg.non hc, h.fs, h.fl⟩
/-- A pair (state, event) lies in the boxes of the results. -/
def Two (g : Nat) (a : Array Value) (e : Array Value) (wx : World) : Prop := Blk wx g 95 a ∧ Blk wx (g + 1) 100 e
theorem Two.alloc {g : Nat} {a e : Array Value} {wx : World} (h : Two g a e wx) (ob : Obj) : Two g a e (wx.alloc ob) := ⟨h.1.alloc ob, h.2.alloc ob⟩
theorem Two.non {g : Nat} {a e : Array Value} {wx w2 : World} (h : Two g a e wx) (hc : Chg Non wx w2) : Two g a e w2 := ⟨h.1.non hc, h.2.non hc⟩
def TwoB (g : Nat) (b : Nat) : Prop := b = g ∨ b = g + 1
set_option maxRecDepth 100000 in
set_option maxHeartbeats 16000000 in
theorem refRun_any (w : World) (b : Nat) (j : Jb) (dA : Option Addr) (dc : Nat) (R : List DRow) (hk : KnAt w b j dA dc R) (s : Stt) (hs : StAt w s) (hwt : s.wt = false) (deep : Int) :
    Calls Try.prog 48 #[.pointer (some ⟨b, 0, none⟩), .agg (stC s), .int .i64 deep, .int .i64 6000] w (RnPost w j deep s) := by
  obtain ⟨w1, hw1⟩ : ∃ w1, ((w.alloc (.cells (stC s) 95)).alloc (.cells (stC st0) 95)).alloc (.cells (evC ev0) 100) = w1 := ⟨_, rfl⟩
  have hc1 : Chg Non w w1 := hw1 ▸ (((Chg.refl _ _).alloc _).alloc _).alloc _
  have hb1 : Blk w1 w.heap.size 95 (stC s) := hw1 ▸ ((Blk.new w _ _).alloc _).alloc _
  have h81 : Blk w1 (w.heap.size + 1) 95 (stC st0) := by
    have := (Blk.new (w.alloc (.cells (stC s) 95)) 95 (stC st0)).alloc (.cells (evC ev0) 100)
    rw [hw1, World.size_alloc] at this
    exact this
  have h91 : Blk w1 (w.heap.size + 2) 100 (evC ev0) := by
    have := Blk.new ((w.alloc (.cells (stC s) 95)).alloc (.cells (stC st0) 95)) 100 (evC ev0)
    rw [hw1, World.size_alloc, World.size_alloc] at this
    exact this
  have hz1 : w1.heap.size = w.heap.size + 3 := by rw [← hw1]; simp
  obtain ⟨x0, x1, x2, x3, x4, x5, x6⟩ := cell7 hb1
  have hbl := hb1.lt
  have hmay := refMay_any w1 b j dA dc R (hk.non hc1) s (hs.non hc1)
  have HM := Lib.hid hmay
  have HK := Lib.hid hk
  have Hs := Lib.hid hs
  have Hwt := Lib.hid hwt
  have Hc1 := Lib.hid hc1
  have Hb1 := Lib.hid hb1
  have H81 := Lib.hid h81
  have H91 := Lib.hid h91
  have Hz1 := Lib.hid hz1
  unfold stC st0 evC ev0 at hw1
  unfold stC
  clear hc1 hb1 h81 h91 hz1 hk hs hmay hwt
  go_enter Try.func48, Try.ntmps48
  go_wp2_with fail
  refine HM.out.mono ?_
  rintro e w2 ⟨ok, rfl, hc2, hok⟩
  have hb2 := Hb1.out.non hc2
  have hc02 := Hc1.out.non hc2
  have hcp := refCopied_any w2 s (Hs.out.non hc02)
  clear x0 x1 x2 x3 x4 x5 x6 hw1 hbl
  obtain ⟨x0, x1, x2, x3, x4, x5, x6⟩ := cell7 hb2
  have hbl := hb2.lt
  have HCp := Lib.hid hcp
  have Hok := Lib.hid hok
  have Hc02 := Lib.hid hc02
  have Hb2 := Lib.hid hb2
  have H82 := Lib.hid (H81.out.non hc2)
  have H92 := Lib.hid (H91.out.non hc2)
  have Hz2 : Hid (w.heap.size + 3 ≤ w2.heap.size) := by show _ ≤ _; have := hc2.size; have := Hz1.out; omega
  clear hcp hok hc02 hc2 hb2
  go_wp2_with fail
  refine HCp.out.mono ?_
  rintro e w3 ⟨A3, c3, B3, d3, rfl, hso, hc3⟩
  have hb3 := Hb2.out.non hc3
  have h83 := H82.out.non hc3
  have h93 := H92.out.non hc3
  have hc03 := Hc02.out.non hc3
  clear x0 x1 x2 x3 x4 x5 x6 hbl
  obtain ⟨x0, x1, x2, x3, x4, x5, x6⟩ := cell7 hb3
  obtain ⟨z0, z1, z2, z3, z4, z5, z6⟩ : w3.frozen? ⟨w.heap.size, 0, none⟩ = false ∧ w3.frozen? ⟨w.heap.size, 1, none⟩ = false ∧ w3.frozen? ⟨w.heap.size, 2, none⟩ = false ∧ w3.frozen? ⟨w.heap.size, 3, none⟩ = false ∧ w3.frozen? ⟨w.heap.size, 4, none⟩ = false ∧ w3.frozen? ⟨w.heap.size, 5, none⟩ = false ∧ w3.frozen? ⟨w.heap.size, 6, none⟩ = false := ⟨hb3.frozen 0, hb3.frozen 1, hb3.frozen 2, hb3.frozen 3, hb3.frozen 4, hb3.frozen 5, hb3.frozen 6⟩
  have hbl := hb3.lt
  obtain ⟨w4, hw4⟩ : ∃ w4, set7 w3 w.heap.size (.int .i64 s.f) (.int .i64 s.p) (.int .i64 s.u) (.slice A3 s.sn c3) (.slice B3 s.ln d3) (.int .i64 s.k) (.bool s.wt) = w4 := ⟨_, rfl⟩
  have hS4 : Chg (fun b => b = w.heap.size) w3 w4 := hw4 ▸ set7_chg _ _ _ _ _ _ _ _ _
  have hb4 := set7_blk (show Blk w3 w.heap.size 95 #[.int .i64 s.f, .int .i64 s.p, .int .i64 s.u, .slice s.sA s.sn s.sc, .slice s.lA s.ln s.lc, .int .i64 s.k, .bool s.wt] from hb3) (.int .i64 s.f) (.int .i64 s.p) (.int .i64 s.u) (.slice A3 s.sn c3) (.slice B3 s.ln d3) (.int .i64 s.k) (.bool s.wt)
  rw [hw4] at hb4
  have h84 := h83.chg hS4 (fun e => by have e : w.heap.size + 1 = w.heap.size := e; omega)
  have h94 := h93.chg hS4 (fun e => by have e : w.heap.size + 2 = w.heap.size := e; omega)
  have hc04 : Chg Non w w4 := hc03.trans2 hS4 (fun b e => .inr (Nat.le_of_eq e.symm))
  have hso4 : StOwn w4 w2.heap.size { s with sA := A3, sc := c3, lA := B3, lc := d3 } := by
    have h1 := Hz2.out
    exact ⟨hso.os.chg hS4 (fun g hg e => by have := (hso.os.lt hg).1; have e : g = w.heap.size := e; omega), hso.ol.chg hS4 (fun g hg e => by have := (hso.ol.lt hg).1; have e : g = w.heap.size := e; omega), hso.ap, hso.sn, hso.ln⟩
  have Hw4 := Lib.hid hw4
  have Hb4 := Lib.hid hb4
  have H84 := Lib.hid h84
  have H94 := Lib.hid h94
  have Hc04 := Lib.hid hc04
  have Hso4 := Lib.hid hso4
  clear hb3 h83 h93 hc03 hS4 hb4 h84 h94 hc04 hso4 hso hc3 hw4
  unfold stC
  cases ok with
  | false =>
    go_wp2_with fail
    rw [set7_name, Hw4.out]
    have xs : ∀ wx, Chg (TwoB (w.heap.size + 1)) w4 wx → Blk wx w.heap.size 95 #[.int .i64 s.f, .int .i64 s.p, .int .i64 s.u, .slice A3 s.sn c3, .slice B3 s.ln d3, .int .i64 s.k, .bool s.wt] := fun wx h => Hb4.out.chg h (fun e => by rcases e with e | e <;> omega)
    have g0 : ∀ wx, Chg (TwoB (w.heap.size + 1)) w4 wx → wx.cell? ⟨w.heap.size, 0, none⟩ = some (.int .i64 s.f) := fun wx h => (xs wx h).cell 0
    have g1 : ∀ wx, Chg (TwoB (w.heap.size + 1)) w4 wx → wx.cell? ⟨w.heap.size, 1, none⟩ = some (.int .i64 s.p) := fun wx h => (xs wx h).cell 1
    have g2 : ∀ wx, Chg (TwoB (w.heap.size + 1)) w4 wx → wx.cell? ⟨w.heap.size, 2, none⟩ = some (.int .i64 s.u) := fun wx h => (xs wx h).cell 2
    have g3 : ∀ wx, Chg (TwoB (w.heap.size + 1)) w4 wx → wx.cell? ⟨w.heap.size, 3, none⟩ = some (.slice A3 s.sn c3) := fun wx h => (xs wx h).cell 3
    have g4 : ∀ wx, Chg (TwoB (w.heap.size + 1)) w4 wx → wx.cell? ⟨w.heap.size, 4, none⟩ = some (.slice B3 s.ln d3) := fun wx h => (xs wx h).cell 4
    have g5 : ∀ wx, Chg (TwoB (w.heap.size + 1)) w4 wx → wx.cell? ⟨w.heap.size, 5, none⟩ = some (.int .i64 s.k) := fun wx h => (xs wx h).cell 5
    have g6 : ∀ wx, Chg (TwoB (w.heap.size + 1)) w4 wx → wx.cell? ⟨w.heap.size, 6, none⟩ = some (.bool s.wt) := fun wx h => (xs wx h).cell 6
    have H8 := H84
    have H9 := H94
    clear xs x0 x1 x2 x3 x4 x5 x6 z0 z1 z2 z3 z4 z5 z6
    refine y_region _ (TwoB (w.heap.size + 1)) [1, 2, 3] [] (fun i _ _ wx => if i = 2 then Two (w.heap.size + 1) #[.int .i64 s.f, .int .i64 s.p, .int .i64 s.u, .slice A3 s.sn c3, .slice B3 s.ln d3, .int .i64 s.k, .bool s.wt] (evC ev0) wx else if i = 3 then Two (w.heap.size + 1) #[.int .i64 s.f, .int .i64 s.p, .int .i64 s.u, .slice A3 s.sn c3, .slice B3 s.ln d3, .int .i64 s.k, .bool s.wt] #[.int .i64 3, .int .i64 0, .int .i64 0, .int .i64 0, .slice none 0 0, .int .i64 1, .int .i64 0] wx else Two (w.heap.size + 1) (stC st0) (evC ev0) wx) (fun _ _ _ _ => True) (fun i _ v => if i = 1 then v = .agg #[.int .i64 3, .int .i64 0, .int .i64 0, .int .i64 0, .slice none 0 0, .int .i64 1, .int .i64 0] else v = undef) (Two (w.heap.size + 1) (stC st0) (evC ev0)) (by kernel_rfl) (okB_of_F _ (by kernel_rfl)) (fun b hb => by have h1 := H8.out.lt; have h2 := H9.out.lt; rcases hb with e | e <;> (rw [e]; omega)) ⟨H8.out, H9.out⟩ (fun _ _ h => h.alloc _) ?_
    repeat (first | (refine y_plain (TwoB (w.heap.size + 1)) (w4) rfl rfl (f := ?_) (a2 := ?_) (k2 := ?_) (wanted_none rfl) rfl rfl (fun w hC hG => ?_) ?_ ?_ ?_ rfl; rotate_left 3; (clear hG; first | (go_simp; done) | (go_simp; with_reducible rfl) | (simp [*, go_sem, ↓IntWalk.iteOmega]; done) | (simp [*, go_sem, ↓IntWalk.iteOmega]; with_reducible rfl)); (simp only [Act.put, List.setIfInBounds_toArray, List.set_cons_succ, List.set_cons_zero]; with_reducible exact rfl); ((conv => lhs; simp only [Nat.reduceAdd]); try with_reducible exact rfl)) | (refine y_pass (a2 := ?_) (k2 := ?_) (wanted_no rfl rfl rfl rfl) ?_ ?_ ?_ rfl; rotate_left 2; (simp only [Act.put, List.setIfInBounds_toArray, List.set_cons_succ, List.set_cons_zero]; with_reducible exact rfl); ((conv => lhs; simp only [Nat.reduceAdd]); try with_reducible exact rfl)) | (refine y_plain (TwoB (w.heap.size + 1)) (w4) rfl rfl (f := ?_) (a2 := ?_) (k2 := ?_) (wanted_yes rfl rfl rfl) rfl rfl (fun w hC hG => ?_) ?_ ?_ ?_ rfl; rotate_left 3; (clear hG; first | (go_simp; done) | (go_simp; with_reducible rfl) | (simp [*, go_sem, ↓IntWalk.iteOmega]; done) | (simp [*, go_sem, ↓IntWalk.iteOmega]; with_reducible rfl)); (simp only [Act.put, List.setIfInBounds_toArray, List.set_cons_succ, List.set_cons_zero]; with_reducible exact rfl); ((conv => lhs; simp only [Nat.reduceAdd]); try with_reducible exact rfl)))
    refine y_major (TwoB (w.heap.size + 1)) (w4) rfl rfl (a2 := ?_) (k2 := ?_) (wanted_none rfl) rfl (⟨.agg #[.int .i64 3, .int .i64 0, .int .i64 0, .int .i64 0, .slice none 0 0, .int .i64 1, .int .i64 0], rfl⟩) (fun _ _ _ _ _ _ => trivial) (fun v w ob h => Two.alloc h ob) (fun w hC hG hS => ?_) (fun v => ?_) ?_ (fun v hv => ?_) rfl
    rotate_left 3
    (simp only [Act.put, List.setIfInBounds_toArray, List.set_cons_succ, List.set_cons_zero]; with_reducible exact rfl)
    ((conv => lhs; simp only [Nat.reduceAdd]); try with_reducible exact rfl)
    rotate_left
    · refine settle_of (r2 := .ok (.enter 64 #[.int .i64 0, .int .i64 1, .int .i64 0]) w) ?_ (settle_enter ((refEnded_lit w 0 1 0).mono ?_))
      · (first | (go_simp; done) | (go_simp; rfl))
      · rintro e w9 ⟨rfl, hc9⟩
        exact ⟨_, rfl, rfl, hc9.of_non, Two.non hS hc9, trivial⟩
    have hv : v = .agg #[.int .i64 3, .int .i64 0, .int .i64 0, .int .i64 0, .slice none 0 0, .int .i64 1, .int .i64 0] := hv
    subst hv
    repeat (first | (refine y_plain (TwoB (w.heap.size + 1)) (w4) rfl rfl (f := ?_) (a2 := ?_) (k2 := ?_) (wanted_none rfl) rfl rfl (fun w hC hG => ?_) ?_ ?_ ?_ rfl; rotate_left 3; (clear hG; first | (go_simp; done) | (go_simp; with_reducible rfl) | (simp [*, go_sem, ↓IntWalk.iteOmega]; done) | (simp [*, go_sem, ↓IntWalk.iteOmega]; with_reducible rfl)); (simp only [Act.put, List.setIfInBounds_toArray, List.set_cons_succ, List.set_cons_zero]; with_reducible exact rfl); ((conv => lhs; simp only [Nat.reduceAdd]); try with_reducible exact rfl)) | (refine y_pass (a2 := ?_) (k2 := ?_) (wanted_no rfl rfl rfl rfl) ?_ ?_ ?_ rfl; rotate_left 2; (simp only [Act.put, List.setIfInBounds_toArray, List.set_cons_succ, List.set_cons_zero]; with_reducible exact rfl); ((conv => lhs; simp only [Nat.reduceAdd]); try with_reducible exact rfl)) | (refine y_plain (TwoB (w.heap.size + 1)) (w4) rfl rfl (f := ?_) (a2 := ?_) (k2 := ?_) (wanted_yes rfl rfl rfl) rfl rfl (fun w hC hG => ?_) ?_ ?_ ?_ rfl; rotate_left 3; (clear hG; first | (go_simp; done) | (go_simp; with_reducible rfl) | (simp [*, go_sem, ↓IntWalk.iteOmega]; done) | (simp [*, go_sem, ↓IntWalk.iteOmega]; with_reducible rfl)); (simp only [Act.put, List.setIfInBounds_toArray, List.set_cons_succ, List.set_cons_zero]; with_reducible exact rfl); ((conv => lhs; simp only [Nat.reduceAdd]); try with_reducible exact rfl)))
    refine y_major (TwoB (w.heap.size + 1)) (w4) rfl rfl (a2 := ?_) (k2 := ?_) (wanted_none rfl) rfl (⟨undef, rfl⟩) (fun _ _ _ _ _ _ => trivial) (fun v w ob h => Two.alloc h ob) (fun w hC hG hS => ?_) (fun v => ?_) ?_ (fun v hv => ?_) rfl
    rotate_left 3
    (simp only [Act.put, List.setIfInBounds_toArray, List.set_cons_succ, List.set_cons_zero]; with_reducible exact rfl)
    ((conv => lhs; simp only [Nat.reduceAdd]); try with_reducible exact rfl)
    rotate_left
    · refine settle_store _ _ rfl (cs := #[.int .i64 s.f, .int .i64 s.p, .int .i64 s.u, .slice A3 s.sn c3, .slice B3 s.ln d3, .int .i64 s.k, .bool s.wt]) rfl rfl (show Two _ (stC st0) (evC ev0) _ from hS).1 rfl (by kernel_rfl) (by simp [Value.oneCell']) ?_
      intro w9 hB9 hC9
      exact ⟨rfl, hC9.mono (fun b e => .inl e), ⟨hB9, (show Two _ (stC st0) (evC ev0) _ from hS).2.chg hC9 (fun e => Nat.succ_ne_self _ e)⟩, trivial⟩
    have hv : v = undef := hv
    subst hv
    repeat (first | (refine y_plain (TwoB (w.heap.size + 1)) (w4) rfl rfl (f := ?_) (a2 := ?_) (k2 := ?_) (wanted_none rfl) rfl rfl (fun w hC hG => ?_) ?_ ?_ ?_ rfl; rotate_left 3; (clear hG; first | (go_simp; done) | (go_simp; with_reducible rfl) | (simp [*, go_sem, ↓IntWalk.iteOmega]; done) | (simp [*, go_sem, ↓IntWalk.iteOmega]; with_reducible rfl)); (simp only [Act.put, List.setIfInBounds_toArray, List.set_cons_succ, List.set_cons_zero]; with_reducible exact rfl); ((conv => lhs; simp only [Nat.reduceAdd]); try with_reducible exact rfl)) | (refine y_pass (a2 := ?_) (k2 := ?_) (wanted_no rfl rfl rfl rfl) ?_ ?_ ?_ rfl; rotate_left 2; (simp only [Act.put, List.setIfInBounds_toArray, List.set_cons_succ, List.set_cons_zero]; with_reducible exact rfl); ((conv => lhs; simp only [Nat.reduceAdd]); try with_reducible exact rfl)) | (refine y_plain (TwoB (w.heap.size + 1)) (w4) rfl rfl (f := ?_) (a2 := ?_) (k2 := ?_) (wanted_yes rfl rfl rfl) rfl rfl (fun w hC hG => ?_) ?_ ?_ ?_ rfl; rotate_left 3; (clear hG; first | (go_simp; done) | (go_simp; with_reducible rfl) | (simp [*, go_sem, ↓IntWalk.iteOmega]; done) | (simp [*, go_sem, ↓IntWalk.iteOmega]; with_reducible rfl)); (simp only [Act.put, List.setIfInBounds_toArray, List.set_cons_succ, List.set_cons_zero]; with_reducible exact rfl); ((conv => lhs; simp only [Nat.reduceAdd]); try with_reducible exact rfl)))
    refine y_major (TwoB (w.heap.size + 1)) (w4) rfl rfl (a2 := ?_) (k2 := ?_) (wanted_none rfl) rfl (⟨undef, rfl⟩) (fun _ _ _ _ _ _ => trivial) (fun v w ob h => Two.alloc h ob) (fun w hC hG hS => ?_) (fun v => ?_) ?_ (fun v hv => ?_) rfl
    rotate_left 3
    (simp only [Act.put, List.setIfInBounds_toArray, List.set_cons_succ, List.set_cons_zero]; with_reducible exact rfl)
    ((conv => lhs; simp only [Nat.reduceAdd]); try with_reducible exact rfl)
    rotate_left
    · refine settle_store _ _ rfl (cs := #[.int .i64 3, .int .i64 0, .int .i64 0, .int .i64 0, .slice none 0 0, .int .i64 1, .int .i64 0]) rfl rfl (show Two _ #[.int .i64 s.f, .int .i64 s.p, .int .i64 s.u, .slice A3 s.sn c3, .slice B3 s.ln d3, .int .i64 s.k, .bool s.wt] (evC ev0) _ from hS).2 rfl (by kernel_rfl) (by simp [Value.oneCell']) ?_
      intro w9 hB9 hC9
      exact ⟨rfl, hC9.mono (fun b e => .inr e), ⟨(show Two _ #[.int .i64 s.f, .int .i64 s.p, .int .i64 s.u, .slice A3 s.sn c3, .slice B3 s.ln d3, .int .i64 s.k, .bool s.wt] (evC ev0) _ from hS).1.chg hC9 (fun e => Nat.succ_ne_self _ (Eq.symm e)), hB9⟩, trivial⟩
    have hv : v = undef := hv
    subst hv
    repeat (first | (refine y_plain (TwoB (w.heap.size + 1)) (w4) rfl rfl (f := ?_) (a2 := ?_) (k2 := ?_) (wanted_none rfl) rfl rfl (fun w hC hG => ?_) ?_ ?_ ?_ rfl; rotate_left 3; (clear hG; first | (go_simp; done) | (go_simp; with_reducible rfl) | (simp [*, go_sem, ↓IntWalk.iteOmega]; done) | (simp [*, go_sem, ↓IntWalk.iteOmega]; with_reducible rfl)); (simp only [Act.put, List.setIfInBounds_toArray, List.set_cons_succ, List.set_cons_zero]; with_reducible exact rfl); ((conv => lhs; simp only [Nat.reduceAdd]); try with_reducible exact rfl)) | (refine y_pass (a2 := ?_) (k2 := ?_) (wanted_no rfl rfl rfl rfl) ?_ ?_ ?_ rfl; rotate_left 2; (simp only [Act.put, List.setIfInBounds_toArray, List.set_cons_succ, List.set_cons_zero]; with_reducible exact rfl); ((conv => lhs; simp only [Nat.reduceAdd]); try with_reducible exact rfl)) | (refine y_plain (TwoB (w.heap.size + 1)) (w4) rfl rfl (f := ?_) (a2 := ?_) (k2 := ?_) (wanted_yes rfl rfl rfl) rfl rfl (fun w hC hG => ?_) ?_ ?_ ?_ rfl; rotate_left 3; (clear hG; first | (go_simp; done) | (go_simp; with_reducible rfl) | (simp [*, go_sem, ↓IntWalk.iteOmega]; done) | (simp [*, go_sem, ↓IntWalk.iteOmega]; with_reducible rfl)); (simp only [Act.put, List.setIfInBounds_toArray, List.set_cons_succ, List.set_cons_zero]; with_reducible exact rfl); ((conv => lhs; simp only [Nat.reduceAdd]); try with_reducible exact rfl)))
    refine y_end (TwoB (w.heap.size + 1)) w4 rfl rfl (fun w9 hC9 hS9 _ => ?_)
    have h2 : Two (w.heap.size + 1) #[.int .i64 s.f, .int .i64 s.p, .int .i64 s.u, .slice A3 s.sn c3, .slice B3 s.ln d3, .int .i64 s.k, .bool s.wt] #[.int .i64 3, .int .i64 0, .int .i64 0, .int .i64 0, .slice none 0 0, .int .i64 1, .int .i64 0] w9 := hS9
    obtain ⟨t0, t1, t2, t3, t4, t5, t6⟩ := cell7 h2.1
    obtain ⟨v0, v1, v2, v3, v4, v5, v6⟩ := cell7 h2.2
    have hsz := hC9.size
    have hso9 : StOwn w9 w2.heap.size { s with sA := A3, sc := c3, lA := B3, lc := d3 } := by
      have h1 := Hz2.out
      exact ⟨Hso4.out.os.chg hC9 (fun g hg e => by have := (Hso4.out.os.lt hg).1; rcases e with e | e <;> omega), Hso4.out.ol.chg hC9 (fun g hg e => by have := (Hso4.out.ol.lt hg).1; rcases e with e | e <;> omega), Hso4.out.ap, Hso4.out.sn, Hso4.out.ln⟩
    have Hres : Hid (RnPost w j deep s (.returned (.tuple #[.agg #[.int .i64 s.f, .int .i64 s.p, .int .i64 s.u, .slice A3 s.sn c3, .slice B3 s.ln d3, .int .i64 s.k, .bool s.wt], .agg #[.int .i64 3, .int .i64 0, .int .i64 0, .int .i64 0, .slice none 0 0, .int .i64 1, .int .i64 0]])) w9) :=
      ⟨{ s with sA := A3, sc := c3, lA := B3, lc := d3 }, endEv 0 1 0, rfl, hso9.win, Hc04.out.trans2 hC9 (fun b e => .inr (by rcases e with e | e <;> omega)), fun b hb => (by have := (hso9.os.lt (rowB_own hb)).1; have := Hz2.out; omega), fun b hb => (by have := (hso9.ol.lt (rowB_own hb)).1; have := Hz2.out; omega), .inl rfl⟩
    clear g0 g1 g2 g3 g4 g5 g6 hso9 hC9 hS9 h2
    go_wp2_with fail
    exact bodyPost_ret (v := .tuple #[.agg #[.int .i64 s.f, .int .i64 s.p, .int .i64 s.u, .slice A3 s.sn c3, .slice B3 s.ln d3, .int .i64 s.k, .bool s.wt], .agg #[.int .i64 3, .int .i64 0, .int .i64 0, .int .i64 0, .slice none 0 0, .int .i64 1, .int .i64 0]]) (by simp [results, Try.results48, go_sem, t0, t1, t2, t3, t4, t5, t6, v0, v1, v2, v3, v4, v5, v6]) rfl Hres.out
  | true =>
    have hw4f := Hw4.out
    rw [Hwt.out] at hw4f
    have Hw4f := Lib.hid hw4f
    rw [Hwt.out]
    clear hw4f
    go_wp2_with fail
    rw [set7_name, Hw4f.out]
    have hR0 : RelN w j R s 0 { s with sA := A3, sc := c3, lA := B3, lc := d3 } w4 := by
      obtain ⟨fi, pi, f, r, hm, _⟩ := Hok.out trivial
      have h2 := Hz2.out
      exact ⟨Hb4.out, Hso4.out.win, ⟨fi, pi, f, r, hm.hf, hm.hp, hm.fl, hm.gf, hm.gr, hm.d, hm.pl, hm.ln, hm.k0, hm.k16, hm.u0, hm.u1⟩, Hwt.out, rfl, (by show s.u = s.u + 0; omega), H84.out, H94.out, Hc04.out, fun b hb => (by have := (Hso4.out.os.lt (rowB_own hb)).1; omega), fun b hb => (by have := (Hso4.out.ol.lt (rowB_own hb)).1; omega)⟩
    have HR0 := Lib.hid hR0
    clear hR0 x0 x1 x2 x3 x4 x5 x6 z0 z1 z2 z3 z4 z5 z6
    go_loopw [11] (fun i wx => ∃ (n : Nat) (s2 : Stt), i = .int .i64 n ∧ Hid (RelN w j R s n s2 wx)) (fun i _ => 6000 - (intOf i).toNat)
    case atStart => exact ⟨0, _, rfl, HR0.out⟩
    case round =>
      clear HR0
      obtain ⟨n, s2, rfl, hR⟩ := hrel
      obtain ⟨fi, pi, f, r, hm⟩ := hR.out.may
      have Hm := Lib.hid hm
      have hfu : j.fuel ≤ 5000 := HK.out.ok.fuel.2
      have hu := hR.out.u
      have hsu0 : 0 ≤ s.u := by
        obtain ⟨_, _, _, _, hm0, _⟩ := Hok.out trivial
        exact hm0.u0
      have hn5 : n ≤ 5000 := by have := hm.u1; omega
      have hn6 : (n : Int) < 6000 := by omega
      have hub : s2.u ≤ j.fuel := hm.u1
      have hub0 : 0 ≤ s2.u := hm.u0
      have hkr := HK.out.non hR.out.chg
      have hkb := hkr.blk
      have kl := hkb.lt
      have bl := hR.out.box.lt
      have y3 : wr.cell? ⟨b, 3, none⟩ = some (.int .i64 j.fuel) := hkb.cell 3
      have y2 : wr.cell? ⟨w.heap.size, 2, none⟩ = some (.int .i64 s2.u) := hR.out.box.cell 2
      have Hu := Lib.hid hu
      clear hm hkr hkb hu
      by_cases hfe : s2.u = j.fuel
      · have hfe2 : (s2.u == j.fuel) = true := by rw [hfe]; exact beq_self_eq_true _
        clear hfe
        go_wp2_with fail
        go_quiet (fail)
        obtain ⟨w5, hw5⟩ : ∃ w5, wr.drewN nq = w5 := ⟨_, rfl⟩
        rw [hw5]
        have hd5 : Chg Non wr w5 := hw5 ▸ (Chg.refl _ _).drewN nq
        have hR5 := hR.out.non hd5
        have HR5 := Lib.hid hR5
        have hb5 := hR5.box
        have H8 := Lib.hid hR5.r8
        have H9 := Lib.hid hR5.r9
        unfold stC at hb5
        have xs : ∀ wx, Chg (TwoB (w.heap.size + 1)) w5 wx → Blk wx w.heap.size 95 #[.int .i64 s2.f, .int .i64 s2.p, .int .i64 s2.u, .slice s2.sA s2.sn s2.sc, .slice s2.lA s2.ln s2.lc, .int .i64 s2.k, .bool s2.wt] := fun wx h => hb5.chg h (fun e => by rcases e with e | e <;> omega)
        have g0 : ∀ wx, Chg (TwoB (w.heap.size + 1)) w5 wx → wx.cell? ⟨w.heap.size, 0, none⟩ = some (.int .i64 s2.f) := fun wx h => (xs wx h).cell 0
        have g1 : ∀ wx, Chg (TwoB (w.heap.size + 1)) w5 wx → wx.cell? ⟨w.heap.size, 1, none⟩ = some (.int .i64 s2.p) := fun wx h => (xs wx h).cell 1
        have g2 : ∀ wx, Chg (TwoB (w.heap.size + 1)) w5 wx → wx.cell? ⟨w.heap.size, 2, none⟩ = some (.int .i64 s2.u) := fun wx h => (xs wx h).cell 2
        have g3 : ∀ wx, Chg (TwoB (w.heap.size + 1)) w5 wx → wx.cell? ⟨w.heap.size, 3, none⟩ = some (.slice s2.sA s2.sn s2.sc) := fun wx h => (xs wx h).cell 3
        have g4 : ∀ wx, Chg (TwoB (w.heap.size + 1)) w5 wx → wx.cell? ⟨w.heap.size, 4, none⟩ = some (.slice s2.lA s2.ln s2.lc) := fun wx h => (xs wx h).cell 4
        have g5 : ∀ wx, Chg (TwoB (w.heap.size + 1)) w5 wx → wx.cell? ⟨w.heap.size, 5, none⟩ = some (.int .i64 s2.k) := fun wx h => (xs wx h).cell 5
        have g6 : ∀ wx, Chg (TwoB (w.heap.size + 1)) w5 wx → wx.cell? ⟨w.heap.size, 6, none⟩ = some (.bool s2.wt) := fun wx h => (xs wx h).cell 6
        clear xs hb5 hd5 hR5 hw5 y2 y3
        go_wp2_with fail
        refine y_region _ (TwoB (w.heap.size + 1)) [2, 3, 4] [] (fun i _ _ wx => if i = 3 then Two (w.heap.size + 1) #[.int .i64 s2.f, .int .i64 s2.p, .int .i64 s2.u, .slice s2.sA s2.sn s2.sc, .slice s2.lA s2.ln s2.lc, .int .i64 s2.k, .bool s2.wt] (evC ev0) wx else if i = 4 then Two (w.heap.size + 1) #[.int .i64 s2.f, .int .i64 s2.p, .int .i64 s2.u, .slice s2.sA s2.sn s2.sc, .slice s2.lA s2.ln s2.lc, .int .i64 s2.k, .bool s2.wt] #[.int .i64 3, .int .i64 0, .int .i64 0, .int .i64 (n : Int), .slice none 0 0, .int .i64 21, .int .i64 0] wx else Two (w.heap.size + 1) (stC st0) (evC ev0) wx) (fun _ _ _ _ => True) (fun i _ v => if i = 2 then v = .agg #[.int .i64 3, .int .i64 0, .int .i64 0, .int .i64 (n : Int), .slice none 0 0, .int .i64 21, .int .i64 0] else v = undef) (Two (w.heap.size + 1) (stC st0) (evC ev0)) (by kernel_rfl) (okB_of_F _ (by kernel_rfl)) (fun b hb => by have h1 := H8.out.lt; have h2 := H9.out.lt; rcases hb with e | e <;> (rw [e]; omega)) ⟨H8.out, H9.out⟩ (fun _ _ h => h.alloc _) ?_
        repeat (first | (refine y_plain (TwoB (w.heap.size + 1)) (w5) rfl rfl (f := ?_) (a2 := ?_) (k2 := ?_) (wanted_none rfl) rfl rfl (fun w hC hG => ?_) ?_ ?_ ?_ rfl; rotate_left 3; (clear hG; first | (go_simp; done) | (go_simp; with_reducible rfl) | (simp [*, go_sem, ↓IntWalk.iteOmega]; done) | (simp [*, go_sem, ↓IntWalk.iteOmega]; with_reducible rfl)); (simp only [Act.put, List.setIfInBounds_toArray, List.set_cons_succ, List.set_cons_zero]; with_reducible exact rfl); ((conv => lhs; simp only [Nat.reduceAdd]); try with_reducible exact rfl)) | (refine y_pass (a2 := ?_) (k2 := ?_) (wanted_no rfl rfl rfl rfl) ?_ ?_ ?_ rfl; rotate_left 2; (simp only [Act.put, List.setIfInBounds_toArray, List.set_cons_succ, List.set_cons_zero]; with_reducible exact rfl); ((conv => lhs; simp only [Nat.reduceAdd]); try with_reducible exact rfl)) | (refine y_plain (TwoB (w.heap.size + 1)) (w5) rfl rfl (f := ?_) (a2 := ?_) (k2 := ?_) (wanted_yes rfl rfl rfl) rfl rfl (fun w hC hG => ?_) ?_ ?_ ?_ rfl; rotate_left 3; (clear hG; first | (go_simp; done) | (go_simp; with_reducible rfl) | (simp [*, go_sem, ↓IntWalk.iteOmega]; done) | (simp [*, go_sem, ↓IntWalk.iteOmega]; with_reducible rfl)); (simp only [Act.put, List.setIfInBounds_toArray, List.set_cons_succ, List.set_cons_zero]; with_reducible exact rfl); ((conv => lhs; simp only [Nat.reduceAdd]); try with_reducible exact rfl)))
        refine y_major (TwoB (w.heap.size + 1)) (w5) rfl rfl (a2 := ?_) (k2 := ?_) (wanted_none rfl) rfl (⟨.agg #[.int .i64 3, .int .i64 0, .int .i64 0, .int .i64 (n : Int), .slice none 0 0, .int .i64 21, .int .i64 0], rfl⟩) (fun _ _ _ _ _ _ => trivial) (fun v w ob h => Two.alloc h ob) (fun w hC hG hS => ?_) (fun v => ?_) ?_ (fun v hv => ?_) rfl
        rotate_left 3
        (simp only [Act.put, List.setIfInBounds_toArray, List.set_cons_succ, List.set_cons_zero]; with_reducible exact rfl)
        ((conv => lhs; simp only [Nat.reduceAdd]); try with_reducible exact rfl)
        rotate_left
        · refine settle_of (r2 := .ok (.enter 64 #[.int .i64 (n : Int), .int .i64 21, .int .i64 0]) w) ?_ (settle_enter ((refEnded_lit w (n : Int) 21 0).mono ?_))
          · (first | (go_simp; done) | (go_simp; rfl))
          · rintro e w9 ⟨rfl, hc9⟩
            exact ⟨_, rfl, rfl, hc9.of_non, Two.non hS hc9, trivial⟩
        have hv : v = .agg #[.int .i64 3, .int .i64 0, .int .i64 0, .int .i64 (n : Int), .slice none 0 0, .int .i64 21, .int .i64 0] := hv
        subst hv
        repeat (first | (refine y_plain (TwoB (w.heap.size + 1)) (w5) rfl rfl (f := ?_) (a2 := ?_) (k2 := ?_) (wanted_none rfl) rfl rfl (fun w hC hG => ?_) ?_ ?_ ?_ rfl; rotate_left 3; (clear hG; first | (go_simp; done) | (go_simp; with_reducible rfl) | (simp [*, go_sem, ↓IntWalk.iteOmega]; done) | (simp [*, go_sem, ↓IntWalk.iteOmega]; with_reducible rfl)); (simp only [Act.put, List.setIfInBounds_toArray, List.set_cons_succ, List.set_cons_zero]; with_reducible exact rfl); ((conv => lhs; simp only [Nat.reduceAdd]); try with_reducible exact rfl)) | (refine y_pass (a2 := ?_) (k2 := ?_) (wanted_no rfl rfl rfl rfl) ?_ ?_ ?_ rfl; rotate_left 2; (simp only [Act.put, List.setIfInBounds_toArray, List.set_cons_succ, List.set_cons_zero]; with_reducible exact rfl); ((conv => lhs; simp only [Nat.reduceAdd]); try with_reducible exact rfl)) | (refine y_plain (TwoB (w.heap.size + 1)) (w5) rfl rfl (f := ?_) (a2 := ?_) (k2 := ?_) (wanted_yes rfl rfl rfl) rfl rfl (fun w hC hG => ?_) ?_ ?_ ?_ rfl; rotate_left 3; (clear hG; first | (go_simp; done) | (go_simp; with_reducible rfl) | (simp [*, go_sem, ↓IntWalk.iteOmega]; done) | (simp [*, go_sem, ↓IntWalk.iteOmega]; with_reducible rfl)); (simp only [Act.put, List.setIfInBounds_toArray, List.set_cons_succ, List.set_cons_zero]; with_reducible exact rfl); ((conv => lhs; simp only [Nat.reduceAdd]); try with_reducible exact rfl)))
        refine y_major (TwoB (w.heap.size + 1)) (w5) rfl rfl (a2 := ?_) (k2 := ?_) (wanted_none rfl) rfl (⟨undef, rfl⟩) (fun _ _ _ _ _ _ => trivial) (fun v w ob h => Two.alloc h ob) (fun w hC hG hS => ?_) (fun v => ?_) ?_ (fun v hv => ?_) rfl
        rotate_left 3
        (simp only [Act.put, List.setIfInBounds_toArray, List.set_cons_succ, List.set_cons_zero]; with_reducible exact rfl)
        ((conv => lhs; simp only [Nat.reduceAdd]); try with_reducible exact rfl)
        rotate_left
        · refine settle_store _ _ rfl (cs := #[.int .i64 s2.f, .int .i64 s2.p, .int .i64 s2.u, .slice s2.sA s2.sn s2.sc, .slice s2.lA s2.ln s2.lc, .int .i64 s2.k, .bool s2.wt]) rfl rfl (show Two _ (stC st0) (evC ev0) _ from hS).1 rfl (by kernel_rfl) (by simp [Value.oneCell']) ?_
          intro w9 hB9 hC9
          exact ⟨rfl, hC9.mono (fun b e => .inl e), ⟨hB9, (show Two _ (stC st0) (evC ev0) _ from hS).2.chg hC9 (fun e => Nat.succ_ne_self _ e)⟩, trivial⟩
        have hv : v = undef := hv
        subst hv
        repeat (first | (refine y_plain (TwoB (w.heap.size + 1)) (w5) rfl rfl (f := ?_) (a2 := ?_) (k2 := ?_) (wanted_none rfl) rfl rfl (fun w hC hG => ?_) ?_ ?_ ?_ rfl; rotate_left 3; (clear hG; first | (go_simp; done) | (go_simp; with_reducible rfl) | (simp [*, go_sem, ↓IntWalk.iteOmega]; done) | (simp [*, go_sem, ↓IntWalk.iteOmega]; with_reducible rfl)); (simp only [Act.put, List.setIfInBounds_toArray, List.set_cons_succ, List.set_cons_zero]; with_reducible exact rfl); ((conv => lhs; simp only [Nat.reduceAdd]); try with_reducible exact rfl)) | (refine y_pass (a2 := ?_) (k2 := ?_) (wanted_no rfl rfl rfl rfl) ?_ ?_ ?_ rfl; rotate_left 2; (simp only [Act.put, List.setIfInBounds_toArray, List.set_cons_succ, List.set_cons_zero]; with_reducible exact rfl); ((conv => lhs; simp only [Nat.reduceAdd]); try with_reducible exact rfl)) | (refine y_plain (TwoB (w.heap.size + 1)) (w5) rfl rfl (f := ?_) (a2 := ?_) (k2 := ?_) (wanted_yes rfl rfl rfl) rfl rfl (fun w hC hG => ?_) ?_ ?_ ?_ rfl; rotate_left 3; (clear hG; first | (go_simp; done) | (go_simp; with_reducible rfl) | (simp [*, go_sem, ↓IntWalk.iteOmega]; done) | (simp [*, go_sem, ↓IntWalk.iteOmega]; with_reducible rfl)); (simp only [Act.put, List.setIfInBounds_toArray, List.set_cons_succ, List.set_cons_zero]; with_reducible exact rfl); ((conv => lhs; simp only [Nat.reduceAdd]); try with_reducible exact rfl)))
        refine y_major (TwoB (w.heap.size + 1)) (w5) rfl rfl (a2 := ?_) (k2 := ?_) (wanted_none rfl) rfl (⟨undef, rfl⟩) (fun _ _ _ _ _ _ => trivial) (fun v w ob h => Two.alloc h ob) (fun w hC hG hS => ?_) (fun v => ?_) ?_ (fun v hv => ?_) rfl
        rotate_left 3
        (simp only [Act.put, List.setIfInBounds_toArray, List.set_cons_succ, List.set_cons_zero]; with_reducible exact rfl)
        ((conv => lhs; simp only [Nat.reduceAdd]); try with_reducible exact rfl)
        rotate_left
        · refine settle_store _ _ rfl (cs := #[.int .i64 3, .int .i64 0, .int .i64 0, .int .i64 (n : Int), .slice none 0 0, .int .i64 21, .int .i64 0]) rfl rfl (show Two _ #[.int .i64 s2.f, .int .i64 s2.p, .int .i64 s2.u, .slice s2.sA s2.sn s2.sc, .slice s2.lA s2.ln s2.lc, .int .i64 s2.k, .bool s2.wt] (evC ev0) _ from hS).2 rfl (by kernel_rfl) (by simp [Value.oneCell']) ?_
          intro w9 hB9 hC9
          exact ⟨rfl, hC9.mono (fun b e => .inr e), ⟨(show Two _ #[.int .i64 s2.f, .int .i64 s2.p, .int .i64 s2.u, .slice s2.sA s2.sn s2.sc, .slice s2.lA s2.ln s2.lc, .int .i64 s2.k, .bool s2.wt] (evC ev0) _ from hS).1.chg hC9 (fun e => Nat.succ_ne_self _ (Eq.symm e)), hB9⟩, trivial⟩
        have hv : v = undef := hv
        subst hv
        repeat (first | (refine y_plain (TwoB (w.heap.size + 1)) (w5) rfl rfl (f := ?_) (a2 := ?_) (k2 := ?_) (wanted_none rfl) rfl rfl (fun w hC hG => ?_) ?_ ?_ ?_ rfl; rotate_left 3; (clear hG; first | (go_simp; done) | (go_simp; with_reducible rfl) | (simp [*, go_sem, ↓IntWalk.iteOmega]; done) | (simp [*, go_sem, ↓IntWalk.iteOmega]; with_reducible rfl)); (simp only [Act.put, List.setIfInBounds_toArray, List.set_cons_succ, List.set_cons_zero]; with_reducible exact rfl); ((conv => lhs; simp only [Nat.reduceAdd]); try with_reducible exact rfl)) | (refine y_pass (a2 := ?_) (k2 := ?_) (wanted_no rfl rfl rfl rfl) ?_ ?_ ?_ rfl; rotate_left 2; (simp only [Act.put, List.setIfInBounds_toArray, List.set_cons_succ, List.set_cons_zero]; with_reducible exact rfl); ((conv => lhs; simp only [Nat.reduceAdd]); try with_reducible exact rfl)) | (refine y_plain (TwoB (w.heap.size + 1)) (w5) rfl rfl (f := ?_) (a2 := ?_) (k2 := ?_) (wanted_yes rfl rfl rfl) rfl rfl (fun w hC hG => ?_) ?_ ?_ ?_ rfl; rotate_left 3; (clear hG; first | (go_simp; done) | (go_simp; with_reducible rfl) | (simp [*, go_sem, ↓IntWalk.iteOmega]; done) | (simp [*, go_sem, ↓IntWalk.iteOmega]; with_reducible rfl)); (simp only [Act.put, List.setIfInBounds_toArray, List.set_cons_succ, List.set_cons_zero]; with_reducible exact rfl); ((conv => lhs; simp only [Nat.reduceAdd]); try with_reducible exact rfl)))
        refine y_end (TwoB (w.heap.size + 1)) w5 rfl rfl (fun w9 hC9 hS9 _ => ?_)
        have h2 : Two (w.heap.size + 1) #[.int .i64 s2.f, .int .i64 s2.p, .int .i64 s2.u, .slice s2.sA s2.sn s2.sc, .slice s2.lA s2.ln s2.lc, .int .i64 s2.k, .bool s2.wt] #[.int .i64 3, .int .i64 0, .int .i64 0, .int .i64 (n : Int), .slice none 0 0, .int .i64 21, .int .i64 0] w9 := hS9
        obtain ⟨t0, t1, t2, t3, t4, t5, t6⟩ := cell7 h2.1
        obtain ⟨v0, v1, v2, v3, v4, v5, v6⟩ := cell7 h2.2
        have hsz := hC9.size
        have hw9 : StW w9 s2 := HR5.out.win.chg hC9 (fun b hb e => by have := HR5.out.fs b hb; rcases e with e | e <;> omega) (fun b hb e => by have := HR5.out.fl b hb; rcases e with e | e <;> omega)
        have Hres : Hid (RnPost w j deep s (.returned (.tuple #[.agg #[.int .i64 s2.f, .int .i64 s2.p, .int .i64 s2.u, .slice s2.sA s2.sn s2.sc, .slice s2.lA s2.ln s2.lc, .int .i64 s2.k, .bool s2.wt], .agg #[.int .i64 3, .int .i64 0, .int .i64 0, .int .i64 (n : Int), .slice none 0 0, .int .i64 21, .int .i64 0]])) w9) :=
          ⟨s2, endEv n 21 0, rfl, hw9, HR5.out.chg.trans2 hC9 (fun b e => .inr (by rcases e with e | e <;> omega)), fun b hb => (by have := HR5.out.fs b hb; omega), fun b hb => (by have := HR5.out.fl b hb; omega), .inl rfl⟩
        clear g0 g1 g2 g3 g4 g5 g6 hw9 hC9 hS9 h2
        go_wp2_with fail
        exact bodyPost_ret (v := .tuple #[.agg #[.int .i64 s2.f, .int .i64 s2.p, .int .i64 s2.u, .slice s2.sA s2.sn s2.sc, .slice s2.lA s2.ln s2.lc, .int .i64 s2.k, .bool s2.wt], .agg #[.int .i64 3, .int .i64 0, .int .i64 0, .int .i64 (n : Int), .slice none 0 0, .int .i64 21, .int .i64 0]]) (by simp [results, Try.results48, go_sem, t0, t1, t2, t3, t4, t5, t6, v0, v1, v2, v3, v4, v5, v6]) rfl Hres.out
      · have hfe2 : (s2.u == j.fuel) = false := beq_eq_false_iff_ne.2 hfe
        have hlt : s2.u + 1 ≤ j.fuel := by omega
        clear hfe
        go_wp2_with fail
        go_quiet (fail)
        obtain ⟨w5, hw5⟩ : ∃ w5, wr.drewN nq = w5 := ⟨_, rfl⟩
        rw [hw5]
        have hd5 : Chg Non wr w5 := hw5 ▸ (Chg.refl _ _).drewN nq
        have hR5 := hR.out.non hd5
        have HR5 := Lib.hid hR5
        have hb5 := hR5.box
        have bl5 := hb5.lt
        have y5 : w5.cell? ⟨w.heap.size, 2, none⟩ = some (.int .i64 s2.u) := hb5.cell 2
        have f5 := hb5.frozen 2
        have hup : IntKind.i64.wrap (s2.u + 1) = s2.u + 1 := by rw [IntKind.wrap_i64]; omega
        obtain ⟨w6, hw6⟩ : ∃ w6, w5.setCell ⟨w.heap.size, 2, none⟩ (.int .i64 (s2.u + 1)) = w6 := ⟨_, rfl⟩
        have hS6 : Chg (fun b => b = w.heap.size) w5 w6 := hw6 ▸ (Chg.refl _ _).set1 2 _
        have hb6 := hb5.put 2 (.int .i64 (s2.u + 1))
        unfold stC at hb6
        simp only [List.setIfInBounds_toArray, List.set_cons_succ, List.set_cons_zero] at hb6
        rw [hw6] at hb6
        have hb6' : Blk w6 w.heap.size 95 (stC { s2 with u := s2.u + 1 }) := hb6
        have hw6' : StW w6 { s2 with u := s2.u + 1 } := by
          have h9 := hR5.win.chg hS6 (fun b hb e => by have := hR5.fs b hb; have e : b = w.heap.size := e; omega) (fun b hb e => by have := hR5.fl b hb; have e : b = w.heap.size := e; omega)
          exact ⟨h9.ws, h9.wl, h9.ap, h9.sn, h9.ln⟩
        have hm6 : MayP j R { s2 with u := s2.u + 1 } fi pi f r := ⟨Hm.out.hf, Hm.out.hp, Hm.out.fl, Hm.out.gf, Hm.out.gr, Hm.out.d, Hm.out.pl, Hm.out.ln, Hm.out.k0, Hm.out.k16, by show 0 ≤ s2.u + 1; omega, hlt⟩
        have hc6 : Chg Non w w6 := hR5.chg.trans2 hS6 (fun b e => .inr (Nat.le_of_eq e.symm))
        have hst := refStep_any w6 b j dA dc R (HK.out.non hc6) w.heap.size { s2 with u := s2.u + 1 } hb6' hw6' fi pi f r hm6 hR5.wt deep
        have HSt := Lib.hid hst
        have H86 := Lib.hid (hR5.r8.chg hS6 (fun e => by have e : w.heap.size + 1 = w.heap.size := e; omega))
        have H96 := Lib.hid (hR5.r9.chg hS6 (fun e => by have e : w.heap.size + 2 = w.heap.size := e; omega))
        have Hc6 := Lib.hid hc6
        have Hw6' := Lib.hid hw6'
        clear hd5 hR5 hb5 hS6 hb6 hb6' hw6' hm6 hc6 hst hw5 y2 y3
        go_wp2_with fail
        refine HSt.out.mono ?_
        rintro e w7 ⟨s4, ev, en, rfl, hgo, hF, hT⟩
        have hn8 : ¬ StB w.heap.size { s2 with u := s2.u + 1 } (w.heap.size + 1) := fun h => by
          rcases h with h | h | h
          · omega
          · have := HR5.out.fs _ h; omega
          · have := HR5.out.fl _ h; omega
        have hn9 : ¬ StB w.heap.size { s2 with u := s2.u + 1 } (w.heap.size + 2) := fun h => by
          rcases h with h | h | h
          · omega
          · have := HR5.out.fs _ h; omega
          · have := HR5.out.fl _ h; omega
        have h87 := H86.out.chg hgo.chg hn8
        have h97 := H96.out.chg hgo.chg hn9
        have hz6 : w.heap.size + 3 ≤ w6.heap.size := by have := H96.out.lt; omega
        have hc7 : Chg Non w w7 := Hc6.out.trans2 hgo.chg (fun b h => .inr (by
          rcases h with h | h | h
          · omega
          · have := HR5.out.fs _ h; omega
          · have := HR5.out.fl _ h; omega))
        have hf7 : ∀ b, RowB s4.sA b → w.heap.size + 3 ≤ b := fun b hb => by
          rcases hgo.rs b hb with h | h
          · exact HR5.out.fs b h
          · omega
        have hl7 : ∀ b, RowB s4.lA b → w.heap.size + 3 ≤ b := fun b hb => by
          rcases hgo.rl b hb with h | h
          · exact HR5.out.fl b h
          · omega
        have hu4 : s4.u = s2.u + 1 := hgo.u
        obtain ⟨w8, hw8⟩ : ∃ w8, w7.alloc (.cells (evC ev) 100) = w8 := ⟨_, rfl⟩
        have hc78 : Chg Non w7 w8 := hw8 ▸ (Chg.refl _ _).alloc _
        have hE8 : Blk w8 w7.heap.size 100 (evC ev) := hw8 ▸ Blk.new w7 _ _
        have hb8 := hgo.box.non hc78
        have hwin8 := hgo.win.non hc78
        have h88 := h87.non hc78
        have h98 := h97.non hc78
        have hc8 := hc7.non hc78
        have Hgo := Lib.hid hgo
        have Hhf := Lib.hid hF
        have Hht := Lib.hid hT
        have Hf7 := Lib.hid hf7
        have Hl7 := Lib.hid hl7
        have Hu4 := Lib.hid hu4
        have Hc78 := Lib.hid hc78
        have Hc8 := Lib.hid hc8
        have H88 := Lib.hid h88
        have H98 := Lib.hid h98
        have Hb8 := Lib.hid hb8
        have Hwin8 := Lib.hid hwin8
        have HE8 := Lib.hid hE8
        have Hz6 := Lib.hid hz6
        have Hc7 := Lib.hid hc7
        unfold evC at hw8
        unfold evC
        clear hgo hF hT hn8 hn9 h87 h97 hc7 hf7 hl7 hu4 hc78 hb8 hwin8 h88 h98 hc8 hE8 hz6 hw6 y5 f5 hfe2
        cases en with
        | false =>
          have Hrel : Hid (RelN w j R s (n + 1) s4 w8) := by
            obtain ⟨hm4, hwt4, hk4⟩ := Hhf.out rfl
            exact ⟨Hb8.out, Hwin8.out, hm4, hwt4, hk4.trans HR5.out.k, by have := Hu4.out; have := Hu.out; omega, H88.out, H98.out, Hc8.out, Hf7.out, Hl7.out⟩
          go_wp2_with fail
          go_roundw
          case rel => exact ⟨n + 1, s4, by go_num, Hrel.out⟩
          case measure => simp [intOf]; omega
        | true =>
          have hS9 : Chg (fun b => b = w7.heap.size) w8 (w8.setCell ⟨w7.heap.size, 3, none⟩ (.int .i64 ((n : Int) + 1))) := (Chg.refl _ _).set1 3 _
          have e3 : w8.cell? ⟨w7.heap.size, 3, none⟩ = some (.int .i64 ev.steps) := HE8.out.cell 3
          have ef := HE8.out.frozen 3
          have el := HE8.out.lt
          have hnw : IntKind.i64.wrap ((n : Int) + 1) = (n : Int) + 1 := by rw [IntKind.wrap_i64]; omega
          obtain ⟨gE, hgE⟩ : ∃ gE, w7.heap.size = gE := ⟨_, rfl⟩
          obtain ⟨wq, hwq⟩ : ∃ wq, w8.setCell ⟨w7.heap.size, 3, none⟩ (.int .i64 ((n : Int) + 1)) = wq := ⟨_, rfl⟩
          rw [hwq] at hS9
          have hEq := HE8.out.put 3 (.int .i64 ((n : Int) + 1))
          unfold evC at hEq
          simp only [List.setIfInBounds_toArray, List.set_cons_succ, List.set_cons_zero] at hEq
          rw [hwq] at hEq
          have hz7 : w.heap.size + 3 ≤ w7.heap.size := by have := Hz6.out; have := Hgo.out.chg.size; omega
          have hne : ∀ k, k ≤ 2 → w.heap.size + k ≠ w7.heap.size := fun k hk => by omega
          have hbq := Hb8.out.chg hS9 (fun e => hne 0 (by omega) e)
          have h8q := H88.out.chg hS9 (fun e => hne 1 (by omega) e)
          have h9q := H98.out.chg hS9 (fun e => hne 2 (by omega) e)
          have hwinq := Hwin8.out.chg hS9 (fun b hb e => by have h1 := Hgo.out.win.ws.lt (rowB_own hb); have e : b = w7.heap.size := e; omega) (fun b hb e => by have h1 := Hgo.out.win.wl.lt (rowB_own hb); have e : b = w7.heap.size := e; omega)
          have hcq : Chg Non w wq := Hc8.out.trans2 hS9 (fun b e => .inr (by have e : b = w7.heap.size := e; omega))
          have H8 := Lib.hid h8q
          have H9 := Lib.hid h9q
          have Hcq := Lib.hid hcq
          have Hwinq := Lib.hid hwinq
          have HSq := Lib.hid hS9
          have hxsE : ∀ wx, Chg (TwoB (w.heap.size + 1)) wq wx → Blk wx w7.heap.size 100 #[.int .i64 ev.kind, .int .i64 ev.fn, .int .i64 ev.kid, .int .i64 ((n : Int) + 1), .slice ev.A ev.n ev.c, .int .i64 ev.err, .int .i64 ev.val] := fun wx h => hEq.chg h (fun e => by rcases e with e | e <;> omega)
          have q0 : ∀ wx, Chg (TwoB (w.heap.size + 1)) wq wx → wx.cell? ⟨w7.heap.size, 0, none⟩ = some (.int .i64 ev.kind) := fun wx h => (hxsE wx h).cell 0
          have q1 : ∀ wx, Chg (TwoB (w.heap.size + 1)) wq wx → wx.cell? ⟨w7.heap.size, 1, none⟩ = some (.int .i64 ev.fn) := fun wx h => (hxsE wx h).cell 1
          have q2 : ∀ wx, Chg (TwoB (w.heap.size + 1)) wq wx → wx.cell? ⟨w7.heap.size, 2, none⟩ = some (.int .i64 ev.kid) := fun wx h => (hxsE wx h).cell 2
          have q3 : ∀ wx, Chg (TwoB (w.heap.size + 1)) wq wx → wx.cell? ⟨w7.heap.size, 3, none⟩ = some (.int .i64 ((n : Int) + 1)) := fun wx h => (hxsE wx h).cell 3
          have q4 : ∀ wx, Chg (TwoB (w.heap.size + 1)) wq wx → wx.cell? ⟨w7.heap.size, 4, none⟩ = some (.slice ev.A ev.n ev.c) := fun wx h => (hxsE wx h).cell 4
          have q5 : ∀ wx, Chg (TwoB (w.heap.size + 1)) wq wx → wx.cell? ⟨w7.heap.size, 5, none⟩ = some (.int .i64 ev.err) := fun wx h => (hxsE wx h).cell 5
          have q6 : ∀ wx, Chg (TwoB (w.heap.size + 1)) wq wx → wx.cell? ⟨w7.heap.size, 6, none⟩ = some (.int .i64 ev.val) := fun wx h => (hxsE wx h).cell 6
          unfold stC at hbq
          have xs : ∀ wx, Chg (TwoB (w.heap.size + 1)) wq wx → Blk wx w.heap.size 95 #[.int .i64 s4.f, .int .i64 s4.p, .int .i64 s4.u, .slice s4.sA s4.sn s4.sc, .slice s4.lA s4.ln s4.lc, .int .i64 s4.k, .bool s4.wt] := fun wx h => hbq.chg h (fun e => by rcases e with e | e <;> omega)
          have g0 : ∀ wx, Chg (TwoB (w.heap.size + 1)) wq wx → wx.cell? ⟨w.heap.size, 0, none⟩ = some (.int .i64 s4.f) := fun wx h => (xs wx h).cell 0
          have g1 : ∀ wx, Chg (TwoB (w.heap.size + 1)) wq wx → wx.cell? ⟨w.heap.size, 1, none⟩ = some (.int .i64 s4.p) := fun wx h => (xs wx h).cell 1
          have g2 : ∀ wx, Chg (TwoB (w.heap.size + 1)) wq wx → wx.cell? ⟨w.heap.size, 2, none⟩ = some (.int .i64 s4.u) := fun wx h => (xs wx h).cell 2
          have g3 : ∀ wx, Chg (TwoB (w.heap.size + 1)) wq wx → wx.cell? ⟨w.heap.size, 3, none⟩ = some (.slice s4.sA s4.sn s4.sc) := fun wx h => (xs wx h).cell 3
          have g4 : ∀ wx, Chg (TwoB (w.heap.size + 1)) wq wx → wx.cell? ⟨w.heap.size, 4, none⟩ = some (.slice s4.lA s4.ln s4.lc) := fun wx h => (xs wx h).cell 4
          have g5 : ∀ wx, Chg (TwoB (w.heap.size + 1)) wq wx → wx.cell? ⟨w.heap.size, 5, none⟩ = some (.int .i64 s4.k) := fun wx h => (xs wx h).cell 5
          have g6 : ∀ wx, Chg (TwoB (w.heap.size + 1)) wq wx → wx.cell? ⟨w.heap.size, 6, none⟩ = some (.bool s4.wt) := fun wx h => (xs wx h).cell 6
          clear xs hxsE hbq h8q h9q hEq hS9 hwinq hcq hgE hne
          go_wp2_with fail
          refine y_region _ (TwoB (w.heap.size + 1)) [2, 3] [] (fun i _ _ wx => if i = 2 then Two (w.heap.size + 1) #[.int .i64 s4.f, .int .i64 s4.p, .int .i64 s4.u, .slice s4.sA s4.sn s4.sc, .slice s4.lA s4.ln s4.lc, .int .i64 s4.k, .bool s4.wt] (evC ev0) wx else if i = 3 then Two (w.heap.size + 1) #[.int .i64 s4.f, .int .i64 s4.p, .int .i64 s4.u, .slice s4.sA s4.sn s4.sc, .slice s4.lA s4.ln s4.lc, .int .i64 s4.k, .bool s4.wt] #[.int .i64 ev.kind, .int .i64 ev.fn, .int .i64 ev.kid, .int .i64 ((n : Int) + 1), .slice ev.A ev.n ev.c, .int .i64 ev.err, .int .i64 ev.val] wx else Two (w.heap.size + 1) (stC st0) (evC ev0) wx) (fun _ _ _ _ => True) (fun i _ v => if i = 99 then v = .agg #[.int .i64 ev.kind, .int .i64 ev.fn, .int .i64 ev.kid, .int .i64 ((n : Int) + 1), .slice ev.A ev.n ev.c, .int .i64 ev.err, .int .i64 ev.val] else v = undef) (Two (w.heap.size + 1) (stC st0) (evC ev0)) (by kernel_rfl) (okB_of_F _ (by kernel_rfl)) (fun b hb => by have h1 := H8.out.lt; have h2 := H9.out.lt; rcases hb with e | e <;> (rw [e]; omega)) ⟨H8.out, H9.out⟩ (fun _ _ h => h.alloc _) ?_
          repeat (first | (refine y_plain (TwoB (w.heap.size + 1)) (wq) rfl rfl (f := ?_) (a2 := ?_) (k2 := ?_) (wanted_none rfl) rfl rfl (fun w hC hG => ?_) ?_ ?_ ?_ rfl; rotate_left 3; (clear hG; first | (go_simp; done) | (go_simp; with_reducible rfl) | (simp [*, go_sem, ↓IntWalk.iteOmega]; done) | (simp [*, go_sem, ↓IntWalk.iteOmega]; with_reducible rfl)); (simp only [Act.put, List.setIfInBounds_toArray, List.set_cons_succ, List.set_cons_zero]; with_reducible exact rfl); ((conv => lhs; simp only [Nat.reduceAdd]); try with_reducible exact rfl)) | (refine y_pass (a2 := ?_) (k2 := ?_) (wanted_no rfl rfl rfl rfl) ?_ ?_ ?_ rfl; rotate_left 2; (simp only [Act.put, List.setIfInBounds_toArray, List.set_cons_succ, List.set_cons_zero]; with_reducible exact rfl); ((conv => lhs; simp only [Nat.reduceAdd]); try with_reducible exact rfl)) | (refine y_plain (TwoB (w.heap.size + 1)) (wq) rfl rfl (f := ?_) (a2 := ?_) (k2 := ?_) (wanted_yes rfl rfl rfl) rfl rfl (fun w hC hG => ?_) ?_ ?_ ?_ rfl; rotate_left 3; (clear hG; first | (go_simp; done) | (go_simp; with_reducible rfl) | (simp [*, go_sem, ↓IntWalk.iteOmega]; done) | (simp [*, go_sem, ↓IntWalk.iteOmega]; with_reducible rfl)); (simp only [Act.put, List.setIfInBounds_toArray, List.set_cons_succ, List.set_cons_zero]; with_reducible exact rfl); ((conv => lhs; simp only [Nat.reduceAdd]); try with_reducible exact rfl)))
          refine y_major (TwoB (w.heap.size + 1)) (wq) rfl rfl (a2 := ?_) (k2 := ?_) (wanted_none rfl) rfl (⟨undef, rfl⟩) (fun _ _ _ _ _ _ => trivial) (fun v w ob h => Two.alloc h ob) (fun w hC hG hS => ?_) (fun v => ?_) ?_ (fun v hv => ?_) rfl
          rotate_left 3
          (simp only [Act.put, List.setIfInBounds_toArray, List.set_cons_succ, List.set_cons_zero]; with_reducible exact rfl)
          ((conv => lhs; simp only [Nat.reduceAdd]); try with_reducible exact rfl)
          rotate_left
          · refine settle_store _ _ rfl (cs := #[.int .i64 s4.f, .int .i64 s4.p, .int .i64 s4.u, .slice s4.sA s4.sn s4.sc, .slice s4.lA s4.ln s4.lc, .int .i64 s4.k, .bool s4.wt]) rfl rfl (show Two _ (stC st0) (evC ev0) _ from hS).1 rfl (by kernel_rfl) (by simp [Value.oneCell']) ?_
            intro w9 hB9 hC9
            exact ⟨rfl, hC9.mono (fun b e => .inl e), ⟨hB9, (show Two _ (stC st0) (evC ev0) _ from hS).2.chg hC9 (fun e => Nat.succ_ne_self _ e)⟩, trivial⟩
          have hv : v = undef := hv
          subst hv
          repeat (first | (refine y_plain (TwoB (w.heap.size + 1)) (wq) rfl rfl (f := ?_) (a2 := ?_) (k2 := ?_) (wanted_none rfl) rfl rfl (fun w hC hG => ?_) ?_ ?_ ?_ rfl; rotate_left 3; (clear hG; first | (go_simp; done) | (go_simp; with_reducible rfl) | (simp [*, go_sem, ↓IntWalk.iteOmega]; done) | (simp [*, go_sem, ↓IntWalk.iteOmega]; with_reducible rfl)); (simp only [Act.put, List.setIfInBounds_toArray, List.set_cons_succ, List.set_cons_zero]; with_reducible exact rfl); ((conv => lhs; simp only [Nat.reduceAdd]); try with_reducible exact rfl)) | (refine y_pass (a2 := ?_) (k2 := ?_) (wanted_no rfl rfl rfl rfl) ?_ ?_ ?_ rfl; rotate_left 2; (simp only [Act.put, List.setIfInBounds_toArray, List.set_cons_succ, List.set_cons_zero]; with_reducible exact rfl); ((conv => lhs; simp only [Nat.reduceAdd]); try with_reducible exact rfl)) | (refine y_plain (TwoB (w.heap.size + 1)) (wq) rfl rfl (f := ?_) (a2 := ?_) (k2 := ?_) (wanted_yes rfl rfl rfl) rfl rfl (fun w hC hG => ?_) ?_ ?_ ?_ rfl; rotate_left 3; (clear hG; first | (go_simp; done) | (go_simp; with_reducible rfl) | (simp [*, go_sem, ↓IntWalk.iteOmega]; done) | (simp [*, go_sem, ↓IntWalk.iteOmega]; with_reducible rfl)); (simp only [Act.put, List.setIfInBounds_toArray, List.set_cons_succ, List.set_cons_zero]; with_reducible exact rfl); ((conv => lhs; simp only [Nat.reduceAdd]); try with_reducible exact rfl)))
          refine y_major (TwoB (w.heap.size + 1)) (wq) rfl rfl (a2 := ?_) (k2 := ?_) (wanted_none rfl) rfl (⟨undef, rfl⟩) (fun _ _ _ _ _ _ => trivial) (fun v w ob h => Two.alloc h ob) (fun w hC hG hS => ?_) (fun v => ?_) ?_ (fun v hv => ?_) rfl
          rotate_left 3
          (simp only [Act.put, List.setIfInBounds_toArray, List.set_cons_succ, List.set_cons_zero]; with_reducible exact rfl)
          ((conv => lhs; simp only [Nat.reduceAdd]); try with_reducible exact rfl)
          rotate_left
          · refine settle_store _ _ rfl (cs := #[.int .i64 ev.kind, .int .i64 ev.fn, .int .i64 ev.kid, .int .i64 ((n : Int) + 1), .slice ev.A ev.n ev.c, .int .i64 ev.err, .int .i64 ev.val]) rfl rfl (show Two _ #[.int .i64 s4.f, .int .i64 s4.p, .int .i64 s4.u, .slice s4.sA s4.sn s4.sc, .slice s4.lA s4.ln s4.lc, .int .i64 s4.k, .bool s4.wt] (evC ev0) _ from hS).2 rfl (by kernel_rfl) (by simp [Value.oneCell']) ?_
            intro w9 hB9 hC9
            exact ⟨rfl, hC9.mono (fun b e => .inr e), ⟨(show Two _ #[.int .i64 s4.f, .int .i64 s4.p, .int .i64 s4.u, .slice s4.sA s4.sn s4.sc, .slice s4.lA s4.ln s4.lc, .int .i64 s4.k, .bool s4.wt] (evC ev0) _ from hS).1.chg hC9 (fun e => Nat.succ_ne_self _ (Eq.symm e)), hB9⟩, trivial⟩
          have hv : v = undef := hv
          subst hv
          repeat (first | (refine y_plain (TwoB (w.heap.size + 1)) (wq) rfl rfl (f := ?_) (a2 := ?_) (k2 := ?_) (wanted_none rfl) rfl rfl (fun w hC hG => ?_) ?_ ?_ ?_ rfl; rotate_left 3; (clear hG; first | (go_simp; done) | (go_simp; with_reducible rfl) | (simp [*, go_sem, ↓IntWalk.iteOmega]; done) | (simp [*, go_sem, ↓IntWalk.iteOmega]; with_reducible rfl)); (simp only [Act.put, List.setIfInBounds_toArray, List.set_cons_succ, List.set_cons_zero]; with_reducible exact rfl); ((conv => lhs; simp only [Nat.reduceAdd]); try with_reducible exact rfl)) | (refine y_pass (a2 := ?_) (k2 := ?_) (wanted_no rfl rfl rfl rfl) ?_ ?_ ?_ rfl; rotate_left 2; (simp only [Act.put, List.setIfInBounds_toArray, List.set_cons_succ, List.set_cons_zero]; with_reducible exact rfl); ((conv => lhs; simp only [Nat.reduceAdd]); try with_reducible exact rfl)) | (refine y_plain (TwoB (w.heap.size + 1)) (wq) rfl rfl (f := ?_) (a2 := ?_) (k2 := ?_) (wanted_yes rfl rfl rfl) rfl rfl (fun w hC hG => ?_) ?_ ?_ ?_ rfl; rotate_left 3; (clear hG; first | (go_simp; done) | (go_simp; with_reducible rfl) | (simp [*, go_sem, ↓IntWalk.iteOmega]; done) | (simp [*, go_sem, ↓IntWalk.iteOmega]; with_reducible rfl)); (simp only [Act.put, List.setIfInBounds_toArray, List.set_cons_succ, List.set_cons_zero]; with_reducible exact rfl); ((conv => lhs; simp only [Nat.reduceAdd]); try with_reducible exact rfl)))
          refine y_end (TwoB (w.heap.size + 1)) wq rfl rfl (fun w9 hC9 hS9 _ => ?_)
          have h2 : Two (w.heap.size + 1) #[.int .i64 s4.f, .int .i64 s4.p, .int .i64 s4.u, .slice s4.sA s4.sn s4.sc, .slice s4.lA s4.ln s4.lc, .int .i64 s4.k, .bool s4.wt] #[.int .i64 ev.kind, .int .i64 ev.fn, .int .i64 ev.kid, .int .i64 ((n : Int) + 1), .slice ev.A ev.n ev.c, .int .i64 ev.err, .int .i64 ev.val] w9 := hS9
          obtain ⟨t0, t1, t2, t3, t4, t5, t6⟩ := cell7 h2.1
          obtain ⟨v0, v1, v2, v3, v4, v5, v6⟩ := cell7 h2.2
          have hsz := hC9.size
          have hw9 : StW w9 s4 := Hwinq.out.chg hC9 (fun b hb e => by have := Hf7.out b hb; rcases e with e | e <;> omega) (fun b hb e => by have := Hl7.out b hb; rcases e with e | e <;> omega)
          have hcw9 : Chg Non w w9 := Hcq.out.trans2 hC9 (fun b e => .inr (by rcases e with e | e <;> omega))
          have hk5 : s2.k = s.k := HR5.out.k
          have Hres : Hid (RnPost w j deep s (.returned (.tuple #[.agg #[.int .i64 s4.f, .int .i64 s4.p, .int .i64 s4.u, .slice s4.sA s4.sn s4.sc, .slice s4.lA s4.ln s4.lc, .int .i64 s4.k, .bool s4.wt], .agg #[.int .i64 ev.kind, .int .i64 ev.fn, .int .i64 ev.kid, .int .i64 ((n : Int) + 1), .slice ev.A ev.n ev.c, .int .i64 ev.err, .int .i64 ev.val]])) w9) := by
            refine ⟨s4, { ev with steps := (n : Int) + 1 }, rfl, hw9, hcw9, fun b hb => (by have := Hf7.out b hb; omega), fun b hb => (by have := Hl7.out b hb; omega), ?_⟩
            have hu4 := Hu4.out
            have hu := Hu.out
            rcases Hht.out trivial with h | ⟨a1, a2, a3, a4, a5, a6, a7, a8, a9, a10⟩ | ⟨a1, a2, a3, a4, a5⟩
            · exact .inl h
            · have a2 : s4.k = s2.k + 1 := a2
              have a3 : ev.kid = s2.k := a3
              have a4 : 0 ≤ s2.k := a4
              have a5 : s2.k < 16 := a5
              refine .inr (.inl ⟨a1, by omega, by show ev.kid = s.k; omega, by omega, by omega, a6, a7, by omega, by omega, ?_, a9, fun b hb => by have := a10 b hb; have := Hz6.out; omega⟩)
              refine ((a8.non Hc78.out).chg HSq.out (fun b hb e2 => ?_)).chg hC9 (fun b hb e2 => ?_)
              · have e2 : b = w7.heap.size := e2
                have := a8.lt hb
                omega
              · have := a10 b (own_rowB hb)
                have := Hz6.out
                rcases e2 with e2 | e2 <;> omega
            · have a3 : ev.kid < s2.k := a3
              have a4 : s4.k = s2.k := a4
              exact .inr (.inr ⟨a1, a2, by show ev.kid < s.k; omega, by omega, a5, by omega, by omega⟩)
          clear g0 g1 g2 g3 g4 g5 g6 q0 q1 q2 q3 q4 q5 q6 hw9 hC9 hS9 h2 hcw9
          go_wp2_with fail
          exact bodyPost_ret (v := .tuple #[.agg #[.int .i64 s4.f, .int .i64 s4.p, .int .i64 s4.u, .slice s4.sA s4.sn s4.sc, .slice s4.lA s4.ln s4.lc, .int .i64 s4.k, .bool s4.wt], .agg #[.int .i64 ev.kind, .int .i64 ev.fn, .int .i64 ev.kid, .int .i64 ((n : Int) + 1), .slice ev.A ev.n ev.c, .int .i64 ev.err, .int .i64 ev.val]]) (by simp [results, Try.results48, go_sem, t0, t1, t2, t3, t4, t5, t6, v0, v1, v2, v3, v4, v5, v6]) rfl Hres.out
end Go.Proofs.Yteinbdifncdaiaa
