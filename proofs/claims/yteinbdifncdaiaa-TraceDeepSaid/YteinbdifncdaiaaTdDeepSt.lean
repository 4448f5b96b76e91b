/-
  A state of a function under way; gleanerref4.ended, copied.
  gleanerref4.(*Known).May: what is asked of a state.
-/
import Derived.Test.YteinbdifncdaiaaTdDeepCheck
import Derived.Test.YteinbdifncdaiaaTdTrace
import Derived.Test.YteinbdifncdaiaaTdRegionM
namespace Go.Proofs.Yteinbdifncdaiaa
open Go.RowKit
set_option linter.unusedVariables false
set_option linter.unusedSimpArgs false

structure Stt where
  f : Int
  p : Int
  u : Int
  sA : Option Addr
  sn : Nat
  sc : Nat
  S : List Int
  lA : Option Addr
  ln : Nat
  lc : Nat
  L : List Int
  k : Int
  wt : Bool
def stC (s : Stt) : Array Value := #[.int .i64 s.f, .int .i64 s.p, .int .i64 s.u, .slice s.sA s.sn s.sc, .slice s.lA s.ln s.lc, .int .i64 s.k, .bool s.wt]
structure Evt where
  kind : Int
  fn : Int
  kid : Int
  steps : Int
  A : Option Addr
  n : Nat
  c : Nat
  L : List Int
  err : Int
  val : Int
def evC (e : Evt) : Array Value := #[.int .i64 e.kind, .int .i64 e.fn, .int .i64 e.kid, .int .i64 e.steps, .slice e.A e.n e.c, .int .i64 e.err, .int .i64 e.val]
def ev0 : Evt := ⟨0, 0, 0, 0, none, 0, 0, [], 0, 0⟩
def st0 : Stt := ⟨0, 0, 0, none, 0, 0, [], none, 0, 0, [], 0, false⟩
def endEv (steps e v : Int) : Evt := ⟨3, 0, 0, steps, none, 0, 0, [], e, v⟩
/-- A state's rows read as they should. -/
structure StAt (w : World) (s : Stt) : Prop where
  rs : Rds w 1 s.sA s.sn (iv s.S)
  rl : Rds w 1 s.lA s.ln (iv s.L)
  sn : s.sn ≤ 1000
  ln : s.ln ≤ 1000
theorem StAt.non {w w2 : World} {s : Stt} (h : StAt w s) (hc : Chg Non w w2) : StAt w2 s := ⟨h.rs.non hc, h.rl.non hc, h.sn, h.ln⟩
/-- A state's rows are the call's own, and apart. -/
structure StOwn (w : World) (base : Nat) (s : Stt) : Prop where
  os : OwnR rkN w base (.slice s.sA s.sn s.sc) s.sn (iv s.S)
  ol : OwnR rkN w base (.slice s.lA s.ln s.lc) s.ln (iv s.L)
  ap : ∀ b, (Value.slice s.sA s.sn s.sc).ownBlock = some b → (Value.slice s.lA s.ln s.lc).ownBlock ≠ some b
  sn : s.sn ≤ 1000
  ln : s.ln ≤ 1000
theorem StOwn.non {w w2 : World} {base : Nat} {s : Stt} (h : StOwn w base s) (hc : Chg Non w w2) : StOwn w2 base s := ⟨h.os.non hc, h.ol.non hc, h.ap, h.sn, h.ln⟩
theorem StOwn.at_ {w : World} {base : Nat} {s : Stt} (h : StOwn w base s) : StAt w s := ⟨h.os.rds, h.ol.rds, h.sn, h.ln⟩

set_option maxRecDepth 100000 in
set_option maxHeartbeats 4000000 in
theorem refEnded_any (w : World) (steps e v : Int) :
    Calls Try.prog 64 #[.int .i64 steps, .int .i64 e, .int .i64 v] w fun en w2 => en = .returned (.agg (evC (endEv steps e v))) ∧ Chg Non w w2 := by
  go_enter Try.func64, Try.ntmps64
  go_wp2_with fail
  obtain ⟨w2, hw2⟩ : ∃ w2, w.alloc (.cells #[.int .i64 3, .int .i64 0, .int .i64 0, .int .i64 steps, .slice none 0 0, .int .i64 e, .int .i64 v] 100) = w2 := ⟨_, rfl⟩
  have hc : Chg Non w w2 := hw2 ▸ (Chg.refl _ _).alloc _
  have hb : Blk w2 w.heap.size 100 (evC (endEv steps e v)) := hw2 ▸ Blk.new w _ _
  have t0 : w2.cell? ⟨w.heap.size, 0, none⟩ = some (.int .i64 3) := hb.cell 0
  have t1 : w2.cell? ⟨w.heap.size, 1, none⟩ = some (.int .i64 0) := hb.cell 1
  have t2 : w2.cell? ⟨w.heap.size, 2, none⟩ = some (.int .i64 0) := hb.cell 2
  have t3 : w2.cell? ⟨w.heap.size, 3, none⟩ = some (.int .i64 steps) := hb.cell 3
  have t4 : w2.cell? ⟨w.heap.size, 4, none⟩ = some (.slice none 0 0) := hb.cell 4
  have t5 : w2.cell? ⟨w.heap.size, 5, none⟩ = some (.int .i64 e) := hb.cell 5
  have t6 : w2.cell? ⟨w.heap.size, 6, none⟩ = some (.int .i64 v) := hb.cell 6
  rw [hw2]
  exact bodyPost_ret (v := .agg (evC (endEv steps e v))) (by simp [results, Try.results64, go_sem, t0, t1, t2, t3, t4, t5, t6, evC, endEv]) rfl ⟨rfl, hc⟩
theorem refEnded_lit (w : World) (steps e v : Int) :
    Calls Try.prog 64 #[.int .i64 steps, .int .i64 e, .int .i64 v] w fun en w2 => en = .returned (.agg #[.int .i64 3, .int .i64 0, .int .i64 0, .int .i64 steps, .slice none 0 0, .int .i64 e, .int .i64 v]) ∧ Chg Non w w2 := refEnded_any w steps e v
/-- What copied answers. -/
def CpPost (w : World) (s : Stt) (e : Ending) (w2 : World) : Prop :=
  ∃ A c B d, e = .returned (.agg (stC { s with sA := A, sc := c, lA := B, lc := d })) ∧ StOwn w2 w.heap.size { s with sA := A, sc := c, lA := B, lc := d } ∧ Chg Non w w2
set_option maxRecDepth 100000 in
set_option maxHeartbeats 4000000 in
theorem refCopied_any (w : World) (s : Stt) (hs : StAt w s) :
    Calls Try.prog 63 #[.agg (stC s)] w (CpPost w s) := by
  have h1 := hs.sn
  have h2 := hs.ln
  obtain ⟨w1, hw1⟩ : ∃ w1, (w.alloc (.cells (stC s) 95)).alloc (.cells (stC st0) 95) = w1 := ⟨_, rfl⟩
  have hc1 : Chg Non w w1 := hw1 ▸ ((Chg.refl _ _).alloc _).alloc _
  have hb1 : Blk w1 w.heap.size 95 (stC s) := hw1 ▸ (Blk.new w _ _).alloc _
  have hr1 : Blk w1 (w.heap.size + 1) 95 (stC st0) := by
    have := Blk.new (w.alloc (.cells (stC s) 95)) 95 (stC st0)
    rw [World.size_alloc, hw1] at this
    exact this
  have hz1 : w1.heap.size = w.heap.size + 2 := by rw [← hw1]; simp
  have c3 : w1.cell? ⟨w.heap.size, 3, none⟩ = some (.slice s.sA s.sn s.sc) := hb1.cell 3
  have cl := hb1.lt
  have hrs := hs.rs.non hc1
  have Hrl : Hid (∀ wx, Chg Non w wx → Rds wx 1 s.lA s.ln (iv s.L)) := fun wx h => hs.rl.non h
  have Hc1 := Lib.hid hc1
  have Hb1 := Lib.hid hb1
  have Hr1 := Lib.hid hr1
  have Hz1 := Lib.hid hz1
  have hone := iv_one s.S
  have hone2 := iv_one s.L
  unfold stC at hw1 ⊢
  unfold st0 at hw1
  clear hc1 hb1 hr1 hs hz1
  go_enter Try.func63, Try.ntmps63
  go_wp2_with (first
    | (at_builtin; refine appRn (K := rkN) rfl (.tmp 4) rfl hrs rfl hone ?_ ?_; (next => omega); intro A2 c2 w2 o2 d2; have hb2 := Hb1.out.non d2; have c32 := hb2.frozen 3; have c33 : w2.cell? ⟨w.heap.size, 3, none⟩ = some (.slice s.sA s.sn s.sc) := hb2.cell 3; have cl2 := hb2.lt; obtain ⟨w3, hw3⟩ : ∃ w3, w2.setCell ⟨w.heap.size, 3, none⟩ (.slice A2 s.sn c2) = w3 := ⟨_, rfl⟩; have hS3 : Chg (fun b => b = w.heap.size) w2 w3 := hw3 ▸ (Chg.refl _ _).set1 3 _; have hb3 := hb2.put 3 (.slice A2 s.sn c2); rw [hw3] at hb3; have c43 : w3.cell? ⟨w.heap.size, 4, none⟩ = some (.slice s.lA s.ln s.lc) := hb3.cell 4; have cl3 := hb3.lt; have hc3 : Chg Non w w3 := (Hc1.out.non d2).trans2 hS3 (fun b e => .inr (Nat.le_of_eq e.symm)); have hrl3 := Hrl.out _ hc3; have Hb3 := Lib.hid hb3)
    | (at_builtin; refine appRn (K := rkN) rfl (.tmp 8) rfl hrl3 rfl hone2 ?_ ?_; (next => omega); intro B4 d4 w4 o4 e4; have hb4 := Hb3.out.non e4; have c44 := hb4.frozen 4; have c45 : w4.cell? ⟨w.heap.size, 4, none⟩ = some (.slice s.lA s.ln s.lc) := hb4.cell 4; obtain ⟨w5, hw5⟩ : ∃ w5, w4.setCell ⟨w.heap.size, 4, none⟩ (.slice B4 s.ln d4) = w5 := ⟨_, rfl⟩; have hS5 : Chg (fun b => b = w.heap.size) w4 w5 := hw5 ▸ (Chg.refl _ _).set1 4 _; have hb5 := hb4.put 4 (.slice B4 s.ln d4); rw [hw5] at hb5; have cl5 := hb5.lt; have cl4 := hb4.lt; have x0 : w5.cell? ⟨w.heap.size, 0, none⟩ = some (.int .i64 s.f) := hb5.cell 0; have x1 : w5.cell? ⟨w.heap.size, 1, none⟩ = some (.int .i64 s.p) := hb5.cell 1; have x2 : w5.cell? ⟨w.heap.size, 2, none⟩ = some (.int .i64 s.u) := hb5.cell 2; have x3 : w5.cell? ⟨w.heap.size, 3, none⟩ = some (.slice A2 s.sn c2) := hb5.cell 3; have x4 : w5.cell? ⟨w.heap.size, 4, none⟩ = some (.slice B4 s.ln d4) := hb5.cell 4; have x5 : w5.cell? ⟨w.heap.size, 5, none⟩ = some (.int .i64 s.k) := hb5.cell 5; have x6 : w5.cell? ⟨w.heap.size, 6, none⟩ = some (.bool s.wt) := hb5.cell 6; have hc5 : Chg Non w w5 := (hc3.non e4).trans2 hS5 (fun b e => .inr (Nat.le_of_eq e.symm)); have hr5 := (((Hr1.out.non d2).chg hS3 (fun e => by have e : w.heap.size + 1 = w.heap.size := e; omega)).non e4).chg hS5 (fun e => by have e : w.heap.size + 1 = w.heap.size := e; omega); have rl5 := hr5.lt; have y0 : w5.cell? ⟨w.heap.size + 1, 0, none⟩ = some (.int .i64 0) := hr5.cell 0; have y1 : w5.cell? ⟨w.heap.size + 1, 1, none⟩ = some (.int .i64 0) := hr5.cell 1; have y2 : w5.cell? ⟨w.heap.size + 1, 2, none⟩ = some (.int .i64 0) := hr5.cell 2; have y3 : w5.cell? ⟨w.heap.size + 1, 3, none⟩ = some (.slice none 0 0) := hr5.cell 3; have y4 : w5.cell? ⟨w.heap.size + 1, 4, none⟩ = some (.slice none 0 0) := hr5.cell 4; have y5 : w5.cell? ⟨w.heap.size + 1, 5, none⟩ = some (.int .i64 0) := hr5.cell 5; have y6 : w5.cell? ⟨w.heap.size + 1, 6, none⟩ = some (.bool false) := hr5.cell 6; have z0 := hr5.frozen 0; have z1 := hr5.frozen 1; have z2 := hr5.frozen 2; have z3 := hr5.frozen 3; have z4 := hr5.frozen 4; have z5 := hr5.frozen 5; have z6 := hr5.frozen 6))
  rw [set7_name]
  have hS6 := set7_chg w5 (w.heap.size + 1) (.int .i64 s.f) (.int .i64 s.p) (.int .i64 s.u) (.slice A2 s.sn c2) (.slice B4 s.ln d4) (.int .i64 s.k) (.bool s.wt)
  have hr6 := set7_blk hr5 (.int .i64 s.f) (.int .i64 s.p) (.int .i64 s.u) (.slice A2 s.sn c2) (.slice B4 s.ln d4) (.int .i64 s.k) (.bool s.wt)
  generalize set7 w5 (w.heap.size + 1) (.int .i64 s.f) (.int .i64 s.p) (.int .i64 s.u) (.slice A2 s.sn c2) (.slice B4 s.ln d4) (.int .i64 s.k) (.bool s.wt) = w6 at hS6 hr6 ⊢
  obtain ⟨t0, t1, t2, t3, t4, t5, t6⟩ := cell7 hr6
  have hz2 := d2.size
  have hz3 := hS3.size
  have hz := Hz1.out
  have hpost : CpPost w s (.returned (.agg (stC { s with sA := A2, sc := c2, lA := B4, lc := d4 }))) w6 := by
    refine ⟨A2, c2, B4, d4, rfl, ⟨((((o2.mono (by omega)).chg hS3 (fun g hg e => by have := (o2.lt hg).1; have e : g = w.heap.size := e; omega)).non e4).chg hS5 (fun g hg e => by have := (o2.lt hg).1; have e : g = w.heap.size := e; omega)).chg hS6 (fun g hg e => by have := (o2.lt hg).1; have e : g = w.heap.size + 1 := e; omega), ((o4.mono (by omega)).chg hS5 (fun g hg e => by have := (o4.lt hg).1; have e : g = w.heap.size := e; omega)).chg hS6 (fun g hg e => by have := (o4.lt hg).1; have e : g = w.heap.size + 1 := e; omega), fun b hb hb2 => ?_, h1, h2⟩, hc5.trans2 hS6 (fun b e => .inr (by have e : b = w.heap.size + 1 := e; omega))⟩
    have := (o2.lt hb).2
    have := (o4.lt hb2).1
    omega
  unfold stC at hpost
  exact bodyPost_ret (v := .agg #[.int .i64 s.f, .int .i64 s.p, .int .i64 s.u, .slice A2 s.sn c2, .slice B4 s.ln d4, .int .i64 s.k, .bool s.wt]) (by simp [results, Try.results63, go_sem, t0, t1, t2, t3, t4, t5, t6]) rfl hpost

/-- A function of a known job, its depths. -/
structure KnFn (w : World) (j : Jb) (dA : Option Addr) (R : List DRow) (p : Nat) (fad dad : Addr) (f : Fn) (r : DRow) : Prop where
  fA : j.fA = some fad
  gf : j.F[p]? = some f
  c0 : w.cell? (fad.add (p * 4)) = some (.string f.nm)
  c1 : w.cell? ⟨(fad.add (p * 4)).block, (fad.add (p * 4)).off + 1, none⟩ = some (.int .i64 f.args)
  c2 : w.cell? ⟨(fad.add (p * 4)).block, (fad.add (p * 4)).off + 2, none⟩ = some (.int .i64 f.locs)
  c3 : w.cell? ⟨(fad.add (p * 4)).block, (fad.add (p * 4)).off + 3, none⟩ = some (.slice f.cA f.cn f.cc)
  dA : dA = some dad
  gr : R[p]? = some r
  d0 : w.cell? (dad.add p) = some (.slice r.A r.n r.c)
  cl : Closed j.F f.code r.D
  rn : r.n = f.cn
  rr : Rds w 1 r.A r.n (iv r.D)
  code : Rds w 2 f.cA f.cn (f.code.flatMap cellI)
  cn : f.cn = f.code.length
  ok : FnOk j.F.length f
theorem KnAt.get {w : World} {b : Nat} {j : Jb} {dA : Option Addr} {dc : Nat} {R : List DRow} (h : KnAt w b j dA dc R) {p : Nat} (hp : p < j.fn) : ∃ fad dad f r, KnFn w j dA R p fad dad f r := by
  obtain ⟨fad, f, h1, h2, h3, h4, h5, h6⟩ := h.job.fns.get hp
  obtain ⟨dad, r, k1, k2, k3⟩ := h.rds.getMap hp
  obtain ⟨g1, g2, g3⟩ := h.rows p f r h2 k2
  have hm := List.mem_of_getElem? h2
  have hc := (h.job.code f hm).1
  exact ⟨fad, dad, f, r, h1, h2, h3, h4, h5, h6, k1, k2, k3, g1, g2, g3, hc, flat_eq cellI_len (by decide) hc, h.ok.fns f hm⟩
/-- What May grants. -/
structure MayP (j : Jb) (R : List DRow) (s : Stt) (fi pi : Nat) (f : Fn) (r : DRow) : Prop where
  hf : s.f = fi
  hp : s.p = pi
  fl : fi < j.fn
  gf : j.F[fi]? = some f
  gr : R[fi]? = some r
  d : r.D[pi]? = some (s.sn : Int)
  pl : pi < f.cn
  ln : (s.ln : Int) = f.locs
  k0 : 0 ≤ s.k
  k16 : s.k ≤ 16
  u0 : 0 ≤ s.u
  u1 : s.u ≤ j.fuel
/-- What May answers. -/
def MyPost (w : World) (j : Jb) (R : List DRow) (s : Stt) (e : Ending) (w2 : World) : Prop :=
  ∃ b, e = .returned (.bool b) ∧ Chg Non w w2 ∧ (b = true → ∃ fi pi f r, MayP j R s fi pi f r ∧ (s.wt = true → 1 ≤ s.sn))
theorem MyPost.no {w : World} {j : Jb} {R : List DRow} {s : Stt} {w2 : World} (hc : Chg Non w w2) : MyPost w j R s (.returned (.bool false)) w2 := ⟨false, rfl, hc, fun h => by cases h⟩
set_option maxRecDepth 100000 in
set_option maxHeartbeats 16000000 in
theorem refMay_any (w : World) (b : Nat) (j : Jb) (dA : Option Addr) (dc : Nat) (R : List DRow) (hk : KnAt w b j dA dc R) (s : Stt) (hs : StAt w s) :
    Calls Try.prog 62 #[.pointer (some ⟨b, 0, none⟩), .agg (stC s)] w (MyPost w j R s) := by
  obtain ⟨w1, hw1⟩ : ∃ w1, w.alloc (.cells (stC s) 95) = w1 := ⟨_, rfl⟩
  have hc1 : Chg Non w w1 := hw1 ▸ (Chg.refl _ _).alloc _
  have hb1 : Blk w1 w.heap.size 95 (stC s) := hw1 ▸ Blk.new w _ _
  have hk1 := hk.non hc1
  have HK1 := Lib.hid hk1
  have HS1 := Lib.hid (hs.non hc1)
  have Hc1 := Lib.hid hc1
  have Hb1 := Lib.hid hb1
  have cl := hb1.lt
  have kl := hk1.blk.lt
  have x0 : w1.cell? ⟨w.heap.size, 0, none⟩ = some (.int .i64 s.f) := hb1.cell 0
  have y0 : w1.cell? ⟨b, 0, none⟩ = some (.slice j.fA j.fn j.fc) := hk1.blk.cell 0
  unfold stC at hw1 ⊢
  clear hc1 hb1 hk1 hk hs
  by_cases hf : s.f < 0 ∨ (0 ≤ s.f ∧ (j.fn : Int) ≤ s.f)
  · have Hno : Hid (∀ nq, MyPost w j R s (.returned (.bool false)) (w1.drewN nq)) := fun nq => MyPost.no (Hc1.out.drewN nq)
    rcases hf with hf | ⟨hf, hf2⟩
    all_goals
      go_enter Try.func62, Try.ntmps62
      go_wp2_with fail
      go_quiet (fail)
      go_wp2_with fail
      exact bodyPost_ret (v := .bool false) (by simp [results, Try.results62, go_sem]) rfl (Hno.out _)
  have hf0 : 0 ≤ s.f := by omega
  have hf1 : s.f < j.fn := by omega
  obtain ⟨fi, hfi⟩ : ∃ fi : Nat, s.f = fi := ⟨s.f.toNat, by omega⟩
  rw [hfi] at hf0 hf1 hw1 x0 ⊢
  have hfl : fi < j.fn := by omega
  obtain ⟨fad, dad, f, r, hK⟩ := HK1.out.get hfl
  have HK := Lib.hid hK
  have Hfi := Lib.hid hfi
  rw [hK.fA] at y0
  have D1 : decide ((fi : Int) < 0) = false := decide_eq_false (by omega)
  have D2 : decide (j.fn ≤ fi) = false := decide_eq_false (by omega)
  clear hf hfi hK
  go_enter Try.func62, Try.ntmps62
  go_wp2_with fail
  go_quiet (fail)
  go_wp2_with fail
  obtain ⟨w2, hw2⟩ : ∃ w2, w1.drewN nq = w2 := ⟨_, rfl⟩
  rw [hw2]
  have hc2 : Chg Non w1 w2 := hw2 ▸ (Chg.refl _ _).drewN nq
  have hb2 := Hb1.out.non hc2
  have hk2 := HK1.out.non hc2
  have cl2 := hb2.lt
  have kl2 := hk2.blk.lt
  have HB2 := Lib.hid hb2
  have HC2 := Lib.hid (Hc1.out.non hc2)
  have HC12 := Lib.hid hc2
  have HK2 := Lib.hid hk2
  have HS2 := Lib.hid (HS1.out.non hc2)
  have g0 : ∀ wx, Chg Non w2 wx → wx.cell? ⟨w.heap.size, 0, none⟩ = some (.int .i64 fi) := fun wx h => (hc2.non h).cell x0 id
  have g1 : ∀ wx, Chg Non w2 wx → wx.cell? ⟨b, 0, none⟩ = some (.slice (some fad) j.fn j.fc) := fun wx h => (hc2.non h).cell y0 id
  have k0 : ∀ wx, Chg Non w2 wx → wx.cell? (fad.add (fi * 4)) = some (.string f.nm) := fun wx h => (hc2.non h).cell HK.out.c0 id
  have k1 : ∀ wx, Chg Non w2 wx → wx.cell? ⟨(fad.add (fi * 4)).block, (fad.add (fi * 4)).off + 1, none⟩ = some (.int .i64 f.args) := fun wx h => (hc2.non h).cell HK.out.c1 id
  have k2 : ∀ wx, Chg Non w2 wx → wx.cell? ⟨(fad.add (fi * 4)).block, (fad.add (fi * 4)).off + 2, none⟩ = some (.int .i64 f.locs) := fun wx h => (hc2.non h).cell HK.out.c2 id
  have k3 : ∀ wx, Chg Non w2 wx → wx.cell? ⟨(fad.add (fi * 4)).block, (fad.add (fi * 4)).off + 3, none⟩ = some (.slice f.cA f.cn f.cc) := fun wx h => (hc2.non h).cell HK.out.c3 id
  clear hc2 hb2 hk2 hw2 hw1
  refine st_region_tail 8 10 Non [] [9] (fun _ _ _ _ => True) (fun _ _ _ _ => True) (fun _ _ _ => True) (fun _ => True) (by kernel_rfl) (by kernel_rfl) (by kernel_rfl) (fun _ h => h.elim) trivial (fun _ _ _ => trivial) ?_
  repeat (first | (refine st_pass (by rfl) ?_; simp only [Act.put, List.setIfInBounds_toArray, List.set_cons_succ, List.set_cons_zero]) | (refine st_plain (Non) (w2) rfl rfl (f := ?_) (by rfl) rfl rfl (fun w hC hG => ?_) ?_; rotate_left; (clear hG; first | (go_simp; done) | (go_simp; with_reducible rfl) | (simp [*, go_sem, ↓IntWalk.iteOmega]; done) | (simp [*, go_sem, ↓IntWalk.iteOmega]; with_reducible rfl)); simp only [Act.put, List.setIfInBounds_toArray, List.set_cons_succ, List.set_cons_zero]))
  refine st_minor Non w2 rfl rfl (ob := .cells #[.string ⟨#[]⟩, .int .i64 0, .int .i64 0, .slice none 0 0] 67) (kd := none) (by rfl) rfl rfl (fun w hC hG => by clear hG; go_simp; rfl) (fun g => ?_)
  simp only [Act.put, List.setIfInBounds_toArray, List.set_cons_succ, List.set_cons_zero]
  refine st_tail Non w2 rfl rfl rfl (fun w5 hC5 _ hG => ?_)
  simp only [List.drop_succ_cons, List.drop_zero, mkv]
  have hF5 : Blk w5 g 67 #[.string ⟨#[]⟩, .int .i64 0, .int .i64 0, .slice none 0 0] := (hG 9).2
  have hFg : w2.heap.size ≤ g := (hG 9).1
  clear hG g0 g1 k0 k1 k2 k3
  refine wpList_store_all rfl (.tmp 5) (.tmp 29) rfl (cs := #[.string f.nm, .int .i64 f.args, .int .i64 f.locs, .slice f.cA f.cn f.cc]) rfl rfl hF5 rfl (by kernel_rfl) (by simp [Value.oneCell']) ?_
  intro w6 hF6 hS6
  have hC6 : Chg Non w2 w6 := hC5.trans2 hS6 (fun b e => .inr (by have e : b = g := e; omega))
  have hb6 := HB2.out.non hC6
  have hk6 := HK2.out.non hC6
  have HC6 := Lib.hid (HC2.out.non hC6)
  have hdr : Chg Non w1 w6 := by
    have h9 : Chg Non w1 w2 := HC12.out
    exact h9.non hC6
  have fl6 := hF6.lt
  have bl6 := hb6.lt
  have kl6 := hk6.blk.lt
  obtain ⟨hdA, hd0⟩ := And.intro HK.out.dA HK.out.d0
  have hkb : Blk w6 b 91 (knC j dA j.fn dc) := hk6.blk
  rw [hdA] at hkb
  have a0 : ∀ wx, Chg Non w6 wx → wx.cell? ⟨w.heap.size, 0, none⟩ = some (.int .i64 fi) := fun wx h => by rw [← Hfi.out]; exact (hb6.non h).cell 0
  have a1 : ∀ wx, Chg Non w6 wx → wx.cell? ⟨w.heap.size, 1, none⟩ = some (.int .i64 s.p) := fun wx h => (hb6.non h).cell 1
  have a2 : ∀ wx, Chg Non w6 wx → wx.cell? ⟨w.heap.size, 2, none⟩ = some (.int .i64 s.u) := fun wx h => (hb6.non h).cell 2
  have a3 : ∀ wx, Chg Non w6 wx → wx.cell? ⟨w.heap.size, 3, none⟩ = some (.slice s.sA s.sn s.sc) := fun wx h => (hb6.non h).cell 3
  have a4 : ∀ wx, Chg Non w6 wx → wx.cell? ⟨w.heap.size, 4, none⟩ = some (.slice s.lA s.ln s.lc) := fun wx h => (hb6.non h).cell 4
  have a5 : ∀ wx, Chg Non w6 wx → wx.cell? ⟨w.heap.size, 5, none⟩ = some (.int .i64 s.k) := fun wx h => (hb6.non h).cell 5
  have f2 : ∀ wx, Chg Non w6 wx → wx.cell? ⟨g, 2, none⟩ = some (.int .i64 f.locs) := fun wx h => (hF6.non h).cell 2
  have f3 : ∀ wx, Chg Non w6 wx → wx.cell? ⟨g, 3, none⟩ = some (.slice f.cA f.cn f.cc) := fun wx h => (hF6.non h).cell 3
  have b3 : ∀ wx, Chg Non w6 wx → wx.cell? ⟨b, 3, none⟩ = some (.int .i64 j.fuel) := fun wx h => (hkb.non h).cell 3
  have b5 : ∀ wx, Chg Non w6 wx → wx.cell? ⟨b, 5, none⟩ = some (.slice (some dad) j.fn dc) := fun wx h => (hkb.non h).cell 5
  have hcn2 : f.cn ≤ 256 := by have := HK.out.ok.code; have := HK.out.cn; omega
  have Hc26 := Lib.hid hC6
  have HB6 := Lib.hid hb6
  have HK6 := Lib.hid hk6
  have HF6 := Lib.hid hF6
  have Hdr := Lib.hid hdr
  have Hno : Hid (∀ wx, Chg Non w6 wx → MyPost w j R s (.returned (.bool false)) wx) := fun wx h => MyPost.no (HC6.out.non h)
  clear hF5 hS6 hC5 x0 y0 hb6 hk6 hC6 hdr hF6 hkb hdA
  simp only [Act.put, List.setIfInBounds_toArray, List.set_cons_succ, List.set_cons_zero]
  go_wp2_with fail
  dsimp only [List.append]
  refine y_region _ Non [] [] (fun _ _ _ _ => True) (fun _ _ _ _ => True) (fun _ _ _ => True) (fun _ => True) (by kernel_rfl) (okB_of_F _ (by kernel_rfl)) (fun _ h => h.elim) trivial (fun _ _ _ => trivial) ?_
  by_cases hp : s.p < 0
  · have D3 := decide_eq_true hp
    repeat (first | (refine y_plain (Non) (w6) rfl rfl (f := ?_) (a2 := ?_) (k2 := ?_) (wanted_none rfl) rfl rfl (fun w hC hG => ?_) ?_ ?_ ?_ rfl; rotate_left 3; (clear hG; first | (go_simp; done) | (go_simp; with_reducible rfl) | (simp [*, go_sem, ↓IntWalk.iteOmega]; done) | (simp [*, go_sem, ↓IntWalk.iteOmega]; with_reducible rfl)); (simp only [Act.put, List.setIfInBounds_toArray, List.set_cons_succ, List.set_cons_zero]; with_reducible exact rfl); ((conv => lhs; simp only [Nat.reduceAdd]); try with_reducible exact rfl)) | (refine y_pass (a2 := ?_) (k2 := ?_) (wanted_no rfl rfl rfl rfl) ?_ ?_ ?_ rfl; rotate_left 2; (simp only [Act.put, List.setIfInBounds_toArray, List.set_cons_succ, List.set_cons_zero]; with_reducible exact rfl); ((conv => lhs; simp only [Nat.reduceAdd]); try with_reducible exact rfl)) | (refine y_plain (Non) (w6) rfl rfl (f := ?_) (a2 := ?_) (k2 := ?_) (wanted_yes rfl rfl rfl) rfl rfl (fun w hC hG => ?_) ?_ ?_ ?_ rfl; rotate_left 3; (clear hG; first | (go_simp; done) | (go_simp; with_reducible rfl) | (simp [*, go_sem, ↓IntWalk.iteOmega]; done) | (simp [*, go_sem, ↓IntWalk.iteOmega]; with_reducible rfl)); (simp only [Act.put, List.setIfInBounds_toArray, List.set_cons_succ, List.set_cons_zero]; with_reducible exact rfl); ((conv => lhs; simp only [Nat.reduceAdd]); try with_reducible exact rfl)))
    refine y_end Non w6 rfl rfl (fun w7 hC7 _ _ => ?_)
    clear a0 a1 a2 a3 a4 a5 f2 f3 b3 b5
    go_wp2_with fail
    exact bodyPost_ret (v := .bool false) (by simp [results, Try.results62, go_sem]) rfl (Hno.out _ hC7)
  have D3 := decide_eq_false hp
  repeat (first | (refine y_plain (Non) (w6) rfl rfl (f := ?_) (a2 := ?_) (k2 := ?_) (wanted_none rfl) rfl rfl (fun w hC hG => ?_) ?_ ?_ ?_ rfl; rotate_left 3; (clear hG; first | (go_simp; done) | (go_simp; with_reducible rfl) | (simp [*, go_sem, ↓IntWalk.iteOmega]; done) | (simp [*, go_sem, ↓IntWalk.iteOmega]; with_reducible rfl)); (simp only [Act.put, List.setIfInBounds_toArray, List.set_cons_succ, List.set_cons_zero]; with_reducible exact rfl); ((conv => lhs; simp only [Nat.reduceAdd]); try with_reducible exact rfl)) | (refine y_pass (a2 := ?_) (k2 := ?_) (wanted_no rfl rfl rfl rfl) ?_ ?_ ?_ rfl; rotate_left 2; (simp only [Act.put, List.setIfInBounds_toArray, List.set_cons_succ, List.set_cons_zero]; with_reducible exact rfl); ((conv => lhs; simp only [Nat.reduceAdd]); try with_reducible exact rfl)) | (refine y_plain (Non) (w6) rfl rfl (f := ?_) (a2 := ?_) (k2 := ?_) (wanted_yes rfl rfl rfl) rfl rfl (fun w hC hG => ?_) ?_ ?_ ?_ rfl; rotate_left 3; (clear hG; first | (go_simp; done) | (go_simp; with_reducible rfl) | (simp [*, go_sem, ↓IntWalk.iteOmega]; done) | (simp [*, go_sem, ↓IntWalk.iteOmega]; with_reducible rfl)); (simp only [Act.put, List.setIfInBounds_toArray, List.set_cons_succ, List.set_cons_zero]; with_reducible exact rfl); ((conv => lhs; simp only [Nat.reduceAdd]); try with_reducible exact rfl)))
  by_cases hp2 : (f.cn : Int) ≤ s.p
  · have D4 := decide_eq_true hp2
    simp only [D4]
    repeat (first | (refine y_plain (Non) (w6) rfl rfl (f := ?_) (a2 := ?_) (k2 := ?_) (wanted_none rfl) rfl rfl (fun w hC hG => ?_) ?_ ?_ ?_ rfl; rotate_left 3; (clear hG; first | (go_simp; done) | (go_simp; with_reducible rfl) | (simp [*, go_sem, ↓IntWalk.iteOmega]; done) | (simp [*, go_sem, ↓IntWalk.iteOmega]; with_reducible rfl)); (simp only [Act.put, List.setIfInBounds_toArray, List.set_cons_succ, List.set_cons_zero]; with_reducible exact rfl); ((conv => lhs; simp only [Nat.reduceAdd]); try with_reducible exact rfl)) | (refine y_pass (a2 := ?_) (k2 := ?_) (wanted_no rfl rfl rfl rfl) ?_ ?_ ?_ rfl; rotate_left 2; (simp only [Act.put, List.setIfInBounds_toArray, List.set_cons_succ, List.set_cons_zero]; with_reducible exact rfl); ((conv => lhs; simp only [Nat.reduceAdd]); try with_reducible exact rfl)) | (refine y_plain (Non) (w6) rfl rfl (f := ?_) (a2 := ?_) (k2 := ?_) (wanted_yes rfl rfl rfl) rfl rfl (fun w hC hG => ?_) ?_ ?_ ?_ rfl; rotate_left 3; (clear hG; first | (go_simp; done) | (go_simp; with_reducible rfl) | (simp [*, go_sem, ↓IntWalk.iteOmega]; done) | (simp [*, go_sem, ↓IntWalk.iteOmega]; with_reducible rfl)); (simp only [Act.put, List.setIfInBounds_toArray, List.set_cons_succ, List.set_cons_zero]; with_reducible exact rfl); ((conv => lhs; simp only [Nat.reduceAdd]); try with_reducible exact rfl)))
    refine y_end Non w6 rfl rfl (fun w7 hC7 _ _ => ?_)
    clear a0 a1 a2 a3 a4 a5 f2 f3 b3 b5
    go_wp2_with fail
    exact bodyPost_ret (v := .bool false) (by simp [results, Try.results62, go_sem]) rfl (Hno.out _ hC7)
  obtain ⟨pi, hpi⟩ : ∃ pi : Nat, s.p = pi := ⟨s.p.toNat, by omega⟩
  have Hpi := Lib.hid hpi
  rw [hpi] at a1 hp hp2 D3
  rw [hpi]
  have D4 := decide_eq_false hp2
  have hpl : pi < f.cn := by omega
  have hrn : pi < r.n := by have := HK.out.rn; omega
  obtain ⟨rad, d, hrA, hrd, hrc⟩ := (HK.out.rr.non Hdr.out).getI hrn
  have d0 : ∀ wx, Chg Non w6 wx → wx.cell? (dad.add fi) = some (.slice (some rad) r.n r.c) := fun wx h => by rw [← hrA]; exact (Hdr.out.non h).cell HK.out.d0 id
  have r0 : ∀ wx, Chg Non w6 wx → wx.cell? (rad.add pi) = some (.int .i64 d) := fun wx h => h.cell hrc id
  have Hrd := Lib.hid hrd
  have hpz : (0 : Int) ≤ (pi : Int) := by omega
  have hpr : (pi : Int) < r.n := by omega
  have b1 : (0 : Int) ≤ (fi : Int) := by omega
  clear hpi hp hp2 hrA hrd hrc
  simp only [D4]
  repeat (first | (refine y_plain (Non) (w6) rfl rfl (f := ?_) (a2 := ?_) (k2 := ?_) (wanted_none rfl) rfl rfl (fun w hC hG => ?_) ?_ ?_ ?_ rfl; rotate_left 3; (clear hG; first | (go_simp; done) | (go_simp; with_reducible rfl) | (simp [*, go_sem, ↓IntWalk.iteOmega]; done) | (simp [*, go_sem, ↓IntWalk.iteOmega]; with_reducible rfl)); (simp only [Act.put, List.setIfInBounds_toArray, List.set_cons_succ, List.set_cons_zero]; with_reducible exact rfl); ((conv => lhs; simp only [Nat.reduceAdd]); try with_reducible exact rfl)) | (refine y_pass (a2 := ?_) (k2 := ?_) (wanted_no rfl rfl rfl rfl) ?_ ?_ ?_ rfl; rotate_left 2; (simp only [Act.put, List.setIfInBounds_toArray, List.set_cons_succ, List.set_cons_zero]; with_reducible exact rfl); ((conv => lhs; simp only [Nat.reduceAdd]); try with_reducible exact rfl)) | (refine y_plain (Non) (w6) rfl rfl (f := ?_) (a2 := ?_) (k2 := ?_) (wanted_yes rfl rfl rfl) rfl rfl (fun w hC hG => ?_) ?_ ?_ ?_ rfl; rotate_left 3; (clear hG; first | (go_simp; done) | (go_simp; with_reducible rfl) | (simp [*, go_sem, ↓IntWalk.iteOmega]; done) | (simp [*, go_sem, ↓IntWalk.iteOmega]; with_reducible rfl)); (simp only [Act.put, List.setIfInBounds_toArray, List.set_cons_succ, List.set_cons_zero]; with_reducible exact rfl); ((conv => lhs; simp only [Nat.reduceAdd]); try with_reducible exact rfl)))
  by_cases hd : d < 0
  · have D5 := decide_eq_true hd
    simp only [D5]
    repeat (first | (refine y_plain (Non) (w6) rfl rfl (f := ?_) (a2 := ?_) (k2 := ?_) (wanted_none rfl) rfl rfl (fun w hC hG => ?_) ?_ ?_ ?_ rfl; rotate_left 3; (clear hG; first | (go_simp; done) | (go_simp; with_reducible rfl) | (simp [*, go_sem, ↓IntWalk.iteOmega]; done) | (simp [*, go_sem, ↓IntWalk.iteOmega]; with_reducible rfl)); (simp only [Act.put, List.setIfInBounds_toArray, List.set_cons_succ, List.set_cons_zero]; with_reducible exact rfl); ((conv => lhs; simp only [Nat.reduceAdd]); try with_reducible exact rfl)) | (refine y_pass (a2 := ?_) (k2 := ?_) (wanted_no rfl rfl rfl rfl) ?_ ?_ ?_ rfl; rotate_left 2; (simp only [Act.put, List.setIfInBounds_toArray, List.set_cons_succ, List.set_cons_zero]; with_reducible exact rfl); ((conv => lhs; simp only [Nat.reduceAdd]); try with_reducible exact rfl)) | (refine y_plain (Non) (w6) rfl rfl (f := ?_) (a2 := ?_) (k2 := ?_) (wanted_yes rfl rfl rfl) rfl rfl (fun w hC hG => ?_) ?_ ?_ ?_ rfl; rotate_left 3; (clear hG; first | (go_simp; done) | (go_simp; with_reducible rfl) | (simp [*, go_sem, ↓IntWalk.iteOmega]; done) | (simp [*, go_sem, ↓IntWalk.iteOmega]; with_reducible rfl)); (simp only [Act.put, List.setIfInBounds_toArray, List.set_cons_succ, List.set_cons_zero]; with_reducible exact rfl); ((conv => lhs; simp only [Nat.reduceAdd]); try with_reducible exact rfl)))
    refine y_end Non w6 rfl rfl (fun w7 hC7 _ _ => ?_)
    clear a0 a1 a2 a3 a4 a5 f2 f3 b3 b5
    go_wp2_with fail
    exact bodyPost_ret (v := .bool false) (by simp [results, Try.results62, go_sem]) rfl (Hno.out _ hC7)
  have D5 := decide_eq_false hd
  simp only [D5]
  repeat (first | (refine y_plain (Non) (w6) rfl rfl (f := ?_) (a2 := ?_) (k2 := ?_) (wanted_none rfl) rfl rfl (fun w hC hG => ?_) ?_ ?_ ?_ rfl; rotate_left 3; (clear hG; first | (go_simp; done) | (go_simp; with_reducible rfl) | (simp [*, go_sem, ↓IntWalk.iteOmega]; done) | (simp [*, go_sem, ↓IntWalk.iteOmega]; with_reducible rfl)); (simp only [Act.put, List.setIfInBounds_toArray, List.set_cons_succ, List.set_cons_zero]; with_reducible exact rfl); ((conv => lhs; simp only [Nat.reduceAdd]); try with_reducible exact rfl)) | (refine y_pass (a2 := ?_) (k2 := ?_) (wanted_no rfl rfl rfl rfl) ?_ ?_ ?_ rfl; rotate_left 2; (simp only [Act.put, List.setIfInBounds_toArray, List.set_cons_succ, List.set_cons_zero]; with_reducible exact rfl); ((conv => lhs; simp only [Nat.reduceAdd]); try with_reducible exact rfl)) | (refine y_plain (Non) (w6) rfl rfl (f := ?_) (a2 := ?_) (k2 := ?_) (wanted_yes rfl rfl rfl) rfl rfl (fun w hC hG => ?_) ?_ ?_ ?_ rfl; rotate_left 3; (clear hG; first | (go_simp; done) | (go_simp; with_reducible rfl) | (simp [*, go_sem, ↓IntWalk.iteOmega]; done) | (simp [*, go_sem, ↓IntWalk.iteOmega]; with_reducible rfl)); (simp only [Act.put, List.setIfInBounds_toArray, List.set_cons_succ, List.set_cons_zero]; with_reducible exact rfl); ((conv => lhs; simp only [Nat.reduceAdd]); try with_reducible exact rfl)))
  by_cases hsn : (s.sn : Int) = d
  rotate_left
  · have D6 : ((s.sn : Int) != d) = true := bne_iff_ne.2 hsn
    clear hsn
    simp only [D6]
    repeat (first | (refine y_plain (Non) (w6) rfl rfl (f := ?_) (a2 := ?_) (k2 := ?_) (wanted_none rfl) rfl rfl (fun w hC hG => ?_) ?_ ?_ ?_ rfl; rotate_left 3; (clear hG; first | (go_simp; done) | (go_simp; with_reducible rfl) | (simp [*, go_sem, ↓IntWalk.iteOmega]; done) | (simp [*, go_sem, ↓IntWalk.iteOmega]; with_reducible rfl)); (simp only [Act.put, List.setIfInBounds_toArray, List.set_cons_succ, List.set_cons_zero]; with_reducible exact rfl); ((conv => lhs; simp only [Nat.reduceAdd]); try with_reducible exact rfl)) | (refine y_pass (a2 := ?_) (k2 := ?_) (wanted_no rfl rfl rfl rfl) ?_ ?_ ?_ rfl; rotate_left 2; (simp only [Act.put, List.setIfInBounds_toArray, List.set_cons_succ, List.set_cons_zero]; with_reducible exact rfl); ((conv => lhs; simp only [Nat.reduceAdd]); try with_reducible exact rfl)) | (refine y_plain (Non) (w6) rfl rfl (f := ?_) (a2 := ?_) (k2 := ?_) (wanted_yes rfl rfl rfl) rfl rfl (fun w hC hG => ?_) ?_ ?_ ?_ rfl; rotate_left 3; (clear hG; first | (go_simp; done) | (go_simp; with_reducible rfl) | (simp [*, go_sem, ↓IntWalk.iteOmega]; done) | (simp [*, go_sem, ↓IntWalk.iteOmega]; with_reducible rfl)); (simp only [Act.put, List.setIfInBounds_toArray, List.set_cons_succ, List.set_cons_zero]; with_reducible exact rfl); ((conv => lhs; simp only [Nat.reduceAdd]); try with_reducible exact rfl)))
    refine y_end Non w6 rfl rfl (fun w7 hC7 _ _ => ?_)
    clear a0 a1 a2 a3 a4 a5 f2 f3 b3 b5
    go_wp2_with fail
    exact bodyPost_ret (v := .bool false) (by simp [results, Try.results62, go_sem]) rfl (Hno.out _ hC7)
  have D6 : ((s.sn : Int) != d) = false := by rw [hsn]; exact bne_self_eq_false _
  have Hhsn := Lib.hid hsn
  clear hsn
  simp only [D6]
  repeat (first | (refine y_plain (Non) (w6) rfl rfl (f := ?_) (a2 := ?_) (k2 := ?_) (wanted_none rfl) rfl rfl (fun w hC hG => ?_) ?_ ?_ ?_ rfl; rotate_left 3; (clear hG; first | (go_simp; done) | (go_simp; with_reducible rfl) | (simp [*, go_sem, ↓IntWalk.iteOmega]; done) | (simp [*, go_sem, ↓IntWalk.iteOmega]; with_reducible rfl)); (simp only [Act.put, List.setIfInBounds_toArray, List.set_cons_succ, List.set_cons_zero]; with_reducible exact rfl); ((conv => lhs; simp only [Nat.reduceAdd]); try with_reducible exact rfl)) | (refine y_pass (a2 := ?_) (k2 := ?_) (wanted_no rfl rfl rfl rfl) ?_ ?_ ?_ rfl; rotate_left 2; (simp only [Act.put, List.setIfInBounds_toArray, List.set_cons_succ, List.set_cons_zero]; with_reducible exact rfl); ((conv => lhs; simp only [Nat.reduceAdd]); try with_reducible exact rfl)) | (refine y_plain (Non) (w6) rfl rfl (f := ?_) (a2 := ?_) (k2 := ?_) (wanted_yes rfl rfl rfl) rfl rfl (fun w hC hG => ?_) ?_ ?_ ?_ rfl; rotate_left 3; (clear hG; first | (go_simp; done) | (go_simp; with_reducible rfl) | (simp [*, go_sem, ↓IntWalk.iteOmega]; done) | (simp [*, go_sem, ↓IntWalk.iteOmega]; with_reducible rfl)); (simp only [Act.put, List.setIfInBounds_toArray, List.set_cons_succ, List.set_cons_zero]; with_reducible exact rfl); ((conv => lhs; simp only [Nat.reduceAdd]); try with_reducible exact rfl)))
  by_cases hln : (s.ln : Int) = f.locs
  rotate_left
  · have D7 : ((s.ln : Int) != f.locs) = true := bne_iff_ne.2 hln
    clear hln
    simp only [D7]
    repeat (first | (refine y_plain (Non) (w6) rfl rfl (f := ?_) (a2 := ?_) (k2 := ?_) (wanted_none rfl) rfl rfl (fun w hC hG => ?_) ?_ ?_ ?_ rfl; rotate_left 3; (clear hG; first | (go_simp; done) | (go_simp; with_reducible rfl) | (simp [*, go_sem, ↓IntWalk.iteOmega]; done) | (simp [*, go_sem, ↓IntWalk.iteOmega]; with_reducible rfl)); (simp only [Act.put, List.setIfInBounds_toArray, List.set_cons_succ, List.set_cons_zero]; with_reducible exact rfl); ((conv => lhs; simp only [Nat.reduceAdd]); try with_reducible exact rfl)) | (refine y_pass (a2 := ?_) (k2 := ?_) (wanted_no rfl rfl rfl rfl) ?_ ?_ ?_ rfl; rotate_left 2; (simp only [Act.put, List.setIfInBounds_toArray, List.set_cons_succ, List.set_cons_zero]; with_reducible exact rfl); ((conv => lhs; simp only [Nat.reduceAdd]); try with_reducible exact rfl)) | (refine y_plain (Non) (w6) rfl rfl (f := ?_) (a2 := ?_) (k2 := ?_) (wanted_yes rfl rfl rfl) rfl rfl (fun w hC hG => ?_) ?_ ?_ ?_ rfl; rotate_left 3; (clear hG; first | (go_simp; done) | (go_simp; with_reducible rfl) | (simp [*, go_sem, ↓IntWalk.iteOmega]; done) | (simp [*, go_sem, ↓IntWalk.iteOmega]; with_reducible rfl)); (simp only [Act.put, List.setIfInBounds_toArray, List.set_cons_succ, List.set_cons_zero]; with_reducible exact rfl); ((conv => lhs; simp only [Nat.reduceAdd]); try with_reducible exact rfl)))
    refine y_end Non w6 rfl rfl (fun w7 hC7 _ _ => ?_)
    clear a0 a1 a2 a3 a4 a5 f2 f3 b3 b5
    go_wp2_with fail
    exact bodyPost_ret (v := .bool false) (by simp [results, Try.results62, go_sem]) rfl (Hno.out _ hC7)
  have D7 : ((s.ln : Int) != f.locs) = false := by rw [hln]; exact bne_self_eq_false _
  have Hhln := Lib.hid hln
  clear hln
  simp only [D7]
  repeat (first | (refine y_plain (Non) (w6) rfl rfl (f := ?_) (a2 := ?_) (k2 := ?_) (wanted_none rfl) rfl rfl (fun w hC hG => ?_) ?_ ?_ ?_ rfl; rotate_left 3; (clear hG; first | (go_simp; done) | (go_simp; with_reducible rfl) | (simp [*, go_sem, ↓IntWalk.iteOmega]; done) | (simp [*, go_sem, ↓IntWalk.iteOmega]; with_reducible rfl)); (simp only [Act.put, List.setIfInBounds_toArray, List.set_cons_succ, List.set_cons_zero]; with_reducible exact rfl); ((conv => lhs; simp only [Nat.reduceAdd]); try with_reducible exact rfl)) | (refine y_pass (a2 := ?_) (k2 := ?_) (wanted_no rfl rfl rfl rfl) ?_ ?_ ?_ rfl; rotate_left 2; (simp only [Act.put, List.setIfInBounds_toArray, List.set_cons_succ, List.set_cons_zero]; with_reducible exact rfl); ((conv => lhs; simp only [Nat.reduceAdd]); try with_reducible exact rfl)) | (refine y_plain (Non) (w6) rfl rfl (f := ?_) (a2 := ?_) (k2 := ?_) (wanted_yes rfl rfl rfl) rfl rfl (fun w hC hG => ?_) ?_ ?_ ?_ rfl; rotate_left 3; (clear hG; first | (go_simp; done) | (go_simp; with_reducible rfl) | (simp [*, go_sem, ↓IntWalk.iteOmega]; done) | (simp [*, go_sem, ↓IntWalk.iteOmega]; with_reducible rfl)); (simp only [Act.put, List.setIfInBounds_toArray, List.set_cons_succ, List.set_cons_zero]; with_reducible exact rfl); ((conv => lhs; simp only [Nat.reduceAdd]); try with_reducible exact rfl)))
  by_cases hk0 : s.k < 0
  · have D8 := decide_eq_true hk0
    simp only [D8]
    repeat (first | (refine y_plain (Non) (w6) rfl rfl (f := ?_) (a2 := ?_) (k2 := ?_) (wanted_none rfl) rfl rfl (fun w hC hG => ?_) ?_ ?_ ?_ rfl; rotate_left 3; (clear hG; first | (go_simp; done) | (go_simp; with_reducible rfl) | (simp [*, go_sem, ↓IntWalk.iteOmega]; done) | (simp [*, go_sem, ↓IntWalk.iteOmega]; with_reducible rfl)); (simp only [Act.put, List.setIfInBounds_toArray, List.set_cons_succ, List.set_cons_zero]; with_reducible exact rfl); ((conv => lhs; simp only [Nat.reduceAdd]); try with_reducible exact rfl)) | (refine y_pass (a2 := ?_) (k2 := ?_) (wanted_no rfl rfl rfl rfl) ?_ ?_ ?_ rfl; rotate_left 2; (simp only [Act.put, List.setIfInBounds_toArray, List.set_cons_succ, List.set_cons_zero]; with_reducible exact rfl); ((conv => lhs; simp only [Nat.reduceAdd]); try with_reducible exact rfl)) | (refine y_plain (Non) (w6) rfl rfl (f := ?_) (a2 := ?_) (k2 := ?_) (wanted_yes rfl rfl rfl) rfl rfl (fun w hC hG => ?_) ?_ ?_ ?_ rfl; rotate_left 3; (clear hG; first | (go_simp; done) | (go_simp; with_reducible rfl) | (simp [*, go_sem, ↓IntWalk.iteOmega]; done) | (simp [*, go_sem, ↓IntWalk.iteOmega]; with_reducible rfl)); (simp only [Act.put, List.setIfInBounds_toArray, List.set_cons_succ, List.set_cons_zero]; with_reducible exact rfl); ((conv => lhs; simp only [Nat.reduceAdd]); try with_reducible exact rfl)))
    refine y_end Non w6 rfl rfl (fun w7 hC7 _ _ => ?_)
    clear a0 a1 a2 a3 a4 a5 f2 f3 b3 b5
    go_wp2_with fail
    exact bodyPost_ret (v := .bool false) (by simp [results, Try.results62, go_sem]) rfl (Hno.out _ hC7)
  have D8 := decide_eq_false hk0
  simp only [D8]
  repeat (first | (refine y_plain (Non) (w6) rfl rfl (f := ?_) (a2 := ?_) (k2 := ?_) (wanted_none rfl) rfl rfl (fun w hC hG => ?_) ?_ ?_ ?_ rfl; rotate_left 3; (clear hG; first | (go_simp; done) | (go_simp; with_reducible rfl) | (simp [*, go_sem, ↓IntWalk.iteOmega]; done) | (simp [*, go_sem, ↓IntWalk.iteOmega]; with_reducible rfl)); (simp only [Act.put, List.setIfInBounds_toArray, List.set_cons_succ, List.set_cons_zero]; with_reducible exact rfl); ((conv => lhs; simp only [Nat.reduceAdd]); try with_reducible exact rfl)) | (refine y_pass (a2 := ?_) (k2 := ?_) (wanted_no rfl rfl rfl rfl) ?_ ?_ ?_ rfl; rotate_left 2; (simp only [Act.put, List.setIfInBounds_toArray, List.set_cons_succ, List.set_cons_zero]; with_reducible exact rfl); ((conv => lhs; simp only [Nat.reduceAdd]); try with_reducible exact rfl)) | (refine y_plain (Non) (w6) rfl rfl (f := ?_) (a2 := ?_) (k2 := ?_) (wanted_yes rfl rfl rfl) rfl rfl (fun w hC hG => ?_) ?_ ?_ ?_ rfl; rotate_left 3; (clear hG; first | (go_simp; done) | (go_simp; with_reducible rfl) | (simp [*, go_sem, ↓IntWalk.iteOmega]; done) | (simp [*, go_sem, ↓IntWalk.iteOmega]; with_reducible rfl)); (simp only [Act.put, List.setIfInBounds_toArray, List.set_cons_succ, List.set_cons_zero]; with_reducible exact rfl); ((conv => lhs; simp only [Nat.reduceAdd]); try with_reducible exact rfl)))
  by_cases hk1 : 16 < s.k
  · have D9 := decide_eq_true hk1
    simp only [D9]
    repeat (first | (refine y_plain (Non) (w6) rfl rfl (f := ?_) (a2 := ?_) (k2 := ?_) (wanted_none rfl) rfl rfl (fun w hC hG => ?_) ?_ ?_ ?_ rfl; rotate_left 3; (clear hG; first | (go_simp; done) | (go_simp; with_reducible rfl) | (simp [*, go_sem, ↓IntWalk.iteOmega]; done) | (simp [*, go_sem, ↓IntWalk.iteOmega]; with_reducible rfl)); (simp only [Act.put, List.setIfInBounds_toArray, List.set_cons_succ, List.set_cons_zero]; with_reducible exact rfl); ((conv => lhs; simp only [Nat.reduceAdd]); try with_reducible exact rfl)) | (refine y_pass (a2 := ?_) (k2 := ?_) (wanted_no rfl rfl rfl rfl) ?_ ?_ ?_ rfl; rotate_left 2; (simp only [Act.put, List.setIfInBounds_toArray, List.set_cons_succ, List.set_cons_zero]; with_reducible exact rfl); ((conv => lhs; simp only [Nat.reduceAdd]); try with_reducible exact rfl)) | (refine y_plain (Non) (w6) rfl rfl (f := ?_) (a2 := ?_) (k2 := ?_) (wanted_yes rfl rfl rfl) rfl rfl (fun w hC hG => ?_) ?_ ?_ ?_ rfl; rotate_left 3; (clear hG; first | (go_simp; done) | (go_simp; with_reducible rfl) | (simp [*, go_sem, ↓IntWalk.iteOmega]; done) | (simp [*, go_sem, ↓IntWalk.iteOmega]; with_reducible rfl)); (simp only [Act.put, List.setIfInBounds_toArray, List.set_cons_succ, List.set_cons_zero]; with_reducible exact rfl); ((conv => lhs; simp only [Nat.reduceAdd]); try with_reducible exact rfl)))
    refine y_end Non w6 rfl rfl (fun w7 hC7 _ _ => ?_)
    clear a0 a1 a2 a3 a4 a5 f2 f3 b3 b5
    go_wp2_with fail
    exact bodyPost_ret (v := .bool false) (by simp [results, Try.results62, go_sem]) rfl (Hno.out _ hC7)
  have D9 := decide_eq_false hk1
  simp only [D9]
  repeat (first | (refine y_plain (Non) (w6) rfl rfl (f := ?_) (a2 := ?_) (k2 := ?_) (wanted_none rfl) rfl rfl (fun w hC hG => ?_) ?_ ?_ ?_ rfl; rotate_left 3; (clear hG; first | (go_simp; done) | (go_simp; with_reducible rfl) | (simp [*, go_sem, ↓IntWalk.iteOmega]; done) | (simp [*, go_sem, ↓IntWalk.iteOmega]; with_reducible rfl)); (simp only [Act.put, List.setIfInBounds_toArray, List.set_cons_succ, List.set_cons_zero]; with_reducible exact rfl); ((conv => lhs; simp only [Nat.reduceAdd]); try with_reducible exact rfl)) | (refine y_pass (a2 := ?_) (k2 := ?_) (wanted_no rfl rfl rfl rfl) ?_ ?_ ?_ rfl; rotate_left 2; (simp only [Act.put, List.setIfInBounds_toArray, List.set_cons_succ, List.set_cons_zero]; with_reducible exact rfl); ((conv => lhs; simp only [Nat.reduceAdd]); try with_reducible exact rfl)) | (refine y_plain (Non) (w6) rfl rfl (f := ?_) (a2 := ?_) (k2 := ?_) (wanted_yes rfl rfl rfl) rfl rfl (fun w hC hG => ?_) ?_ ?_ ?_ rfl; rotate_left 3; (clear hG; first | (go_simp; done) | (go_simp; with_reducible rfl) | (simp [*, go_sem, ↓IntWalk.iteOmega]; done) | (simp [*, go_sem, ↓IntWalk.iteOmega]; with_reducible rfl)); (simp only [Act.put, List.setIfInBounds_toArray, List.set_cons_succ, List.set_cons_zero]; with_reducible exact rfl); ((conv => lhs; simp only [Nat.reduceAdd]); try with_reducible exact rfl)))
  by_cases hu0 : s.u < 0
  · have D10 := decide_eq_true hu0
    simp only [D10]
    repeat (first | (refine y_plain (Non) (w6) rfl rfl (f := ?_) (a2 := ?_) (k2 := ?_) (wanted_none rfl) rfl rfl (fun w hC hG => ?_) ?_ ?_ ?_ rfl; rotate_left 3; (clear hG; first | (go_simp; done) | (go_simp; with_reducible rfl) | (simp [*, go_sem, ↓IntWalk.iteOmega]; done) | (simp [*, go_sem, ↓IntWalk.iteOmega]; with_reducible rfl)); (simp only [Act.put, List.setIfInBounds_toArray, List.set_cons_succ, List.set_cons_zero]; with_reducible exact rfl); ((conv => lhs; simp only [Nat.reduceAdd]); try with_reducible exact rfl)) | (refine y_pass (a2 := ?_) (k2 := ?_) (wanted_no rfl rfl rfl rfl) ?_ ?_ ?_ rfl; rotate_left 2; (simp only [Act.put, List.setIfInBounds_toArray, List.set_cons_succ, List.set_cons_zero]; with_reducible exact rfl); ((conv => lhs; simp only [Nat.reduceAdd]); try with_reducible exact rfl)) | (refine y_plain (Non) (w6) rfl rfl (f := ?_) (a2 := ?_) (k2 := ?_) (wanted_yes rfl rfl rfl) rfl rfl (fun w hC hG => ?_) ?_ ?_ ?_ rfl; rotate_left 3; (clear hG; first | (go_simp; done) | (go_simp; with_reducible rfl) | (simp [*, go_sem, ↓IntWalk.iteOmega]; done) | (simp [*, go_sem, ↓IntWalk.iteOmega]; with_reducible rfl)); (simp only [Act.put, List.setIfInBounds_toArray, List.set_cons_succ, List.set_cons_zero]; with_reducible exact rfl); ((conv => lhs; simp only [Nat.reduceAdd]); try with_reducible exact rfl)))
    refine y_end Non w6 rfl rfl (fun w7 hC7 _ _ => ?_)
    clear a0 a1 a2 a3 a4 a5 f2 f3 b3 b5
    go_wp2_with fail
    exact bodyPost_ret (v := .bool false) (by simp [results, Try.results62, go_sem]) rfl (Hno.out _ hC7)
  have D10 := decide_eq_false hu0
  simp only [D10]
  repeat (first | (refine y_plain (Non) (w6) rfl rfl (f := ?_) (a2 := ?_) (k2 := ?_) (wanted_none rfl) rfl rfl (fun w hC hG => ?_) ?_ ?_ ?_ rfl; rotate_left 3; (clear hG; first | (go_simp; done) | (go_simp; with_reducible rfl) | (simp [*, go_sem, ↓IntWalk.iteOmega]; done) | (simp [*, go_sem, ↓IntWalk.iteOmega]; with_reducible rfl)); (simp only [Act.put, List.setIfInBounds_toArray, List.set_cons_succ, List.set_cons_zero]; with_reducible exact rfl); ((conv => lhs; simp only [Nat.reduceAdd]); try with_reducible exact rfl)) | (refine y_pass (a2 := ?_) (k2 := ?_) (wanted_no rfl rfl rfl rfl) ?_ ?_ ?_ rfl; rotate_left 2; (simp only [Act.put, List.setIfInBounds_toArray, List.set_cons_succ, List.set_cons_zero]; with_reducible exact rfl); ((conv => lhs; simp only [Nat.reduceAdd]); try with_reducible exact rfl)) | (refine y_plain (Non) (w6) rfl rfl (f := ?_) (a2 := ?_) (k2 := ?_) (wanted_yes rfl rfl rfl) rfl rfl (fun w hC hG => ?_) ?_ ?_ ?_ rfl; rotate_left 3; (clear hG; first | (go_simp; done) | (go_simp; with_reducible rfl) | (simp [*, go_sem, ↓IntWalk.iteOmega]; done) | (simp [*, go_sem, ↓IntWalk.iteOmega]; with_reducible rfl)); (simp only [Act.put, List.setIfInBounds_toArray, List.set_cons_succ, List.set_cons_zero]; with_reducible exact rfl); ((conv => lhs; simp only [Nat.reduceAdd]); try with_reducible exact rfl)))
  by_cases hu1 : j.fuel < s.u
  · have D11 := decide_eq_true hu1
    simp only [D11]
    repeat (first | (refine y_plain (Non) (w6) rfl rfl (f := ?_) (a2 := ?_) (k2 := ?_) (wanted_none rfl) rfl rfl (fun w hC hG => ?_) ?_ ?_ ?_ rfl; rotate_left 3; (clear hG; first | (go_simp; done) | (go_simp; with_reducible rfl) | (simp [*, go_sem, ↓IntWalk.iteOmega]; done) | (simp [*, go_sem, ↓IntWalk.iteOmega]; with_reducible rfl)); (simp only [Act.put, List.setIfInBounds_toArray, List.set_cons_succ, List.set_cons_zero]; with_reducible exact rfl); ((conv => lhs; simp only [Nat.reduceAdd]); try with_reducible exact rfl)) | (refine y_pass (a2 := ?_) (k2 := ?_) (wanted_no rfl rfl rfl rfl) ?_ ?_ ?_ rfl; rotate_left 2; (simp only [Act.put, List.setIfInBounds_toArray, List.set_cons_succ, List.set_cons_zero]; with_reducible exact rfl); ((conv => lhs; simp only [Nat.reduceAdd]); try with_reducible exact rfl)) | (refine y_plain (Non) (w6) rfl rfl (f := ?_) (a2 := ?_) (k2 := ?_) (wanted_yes rfl rfl rfl) rfl rfl (fun w hC hG => ?_) ?_ ?_ ?_ rfl; rotate_left 3; (clear hG; first | (go_simp; done) | (go_simp; with_reducible rfl) | (simp [*, go_sem, ↓IntWalk.iteOmega]; done) | (simp [*, go_sem, ↓IntWalk.iteOmega]; with_reducible rfl)); (simp only [Act.put, List.setIfInBounds_toArray, List.set_cons_succ, List.set_cons_zero]; with_reducible exact rfl); ((conv => lhs; simp only [Nat.reduceAdd]); try with_reducible exact rfl)))
    refine y_end Non w6 rfl rfl (fun w7 hC7 _ _ => ?_)
    clear a0 a1 a2 a3 a4 a5 f2 f3 b3 b5
    go_wp2_with fail
    exact bodyPost_ret (v := .bool false) (by simp [results, Try.results62, go_sem]) rfl (Hno.out _ hC7)
  have D11 := decide_eq_false hu1
  simp only [D11]
  repeat (first | (refine y_plain (Non) (w6) rfl rfl (f := ?_) (a2 := ?_) (k2 := ?_) (wanted_none rfl) rfl rfl (fun w hC hG => ?_) ?_ ?_ ?_ rfl; rotate_left 3; (clear hG; first | (go_simp; done) | (go_simp; with_reducible rfl) | (simp [*, go_sem, ↓IntWalk.iteOmega]; done) | (simp [*, go_sem, ↓IntWalk.iteOmega]; with_reducible rfl)); (simp only [Act.put, List.setIfInBounds_toArray, List.set_cons_succ, List.set_cons_zero]; with_reducible exact rfl); ((conv => lhs; simp only [Nat.reduceAdd]); try with_reducible exact rfl)) | (refine y_pass (a2 := ?_) (k2 := ?_) (wanted_no rfl rfl rfl rfl) ?_ ?_ ?_ rfl; rotate_left 2; (simp only [Act.put, List.setIfInBounds_toArray, List.set_cons_succ, List.set_cons_zero]; with_reducible exact rfl); ((conv => lhs; simp only [Nat.reduceAdd]); try with_reducible exact rfl)) | (refine y_plain (Non) (w6) rfl rfl (f := ?_) (a2 := ?_) (k2 := ?_) (wanted_yes rfl rfl rfl) rfl rfl (fun w hC hG => ?_) ?_ ?_ ?_ rfl; rotate_left 3; (clear hG; first | (go_simp; done) | (go_simp; with_reducible rfl) | (simp [*, go_sem, ↓IntWalk.iteOmega]; done) | (simp [*, go_sem, ↓IntWalk.iteOmega]; with_reducible rfl)); (simp only [Act.put, List.setIfInBounds_toArray, List.set_cons_succ, List.set_cons_zero]; with_reducible exact rfl); ((conv => lhs; simp only [Nat.reduceAdd]); try with_reducible exact rfl)))
  refine y_end Non w6 rfl rfl (fun w7 hC7 _ _ => ?_)
  clear a0 a1 a2 a3 a4 a5 f2 f3 b3 b5 d0 r0
  have Hyes : Hid (MayP j R s fi pi f r) := ⟨Hfi.out, Hpi.out, hfl, HK.out.gf, HK.out.gr, by rw [Hrd.out, Hhsn.out], hpl, Hhln.out, by omega, by omega, by omega, by omega⟩
  have HC7 := Lib.hid (HC6.out.non hC7)
  have hb7 := HB6.out.non hC7
  have bl7 := hb7.lt
  have x6 : w7.cell? ⟨w.heap.size, 6, none⟩ = some (.bool s.wt) := hb7.cell 6
  have x1 : w7.cell? ⟨w.heap.size, 1, none⟩ = some (.int .i64 s.p) := hb7.cell 1
  have x3 : w7.cell? ⟨w.heap.size, 3, none⟩ = some (.slice s.sA s.sn s.sc) := hb7.cell 3
  have x5 : w7.cell? ⟨w.heap.size, 5, none⟩ = some (.int .i64 s.k) := hb7.cell 5
  have hF7 := HF6.out.non hC7
  have fl7 := hF7.lt
  have f37 : w7.cell? ⟨g, 3, none⟩ = some (.slice f.cA f.cn f.cc) := hF7.cell 3
  rw [Hpi.out] at x1
  obtain ⟨ia, ⟨op, N⟩, hia, hi, hi0, _⟩ := (HK.out.code.non (Hdr.out.non hC7)).getN cellI_len (by decide) hpl
  have i0 : w7.cell? (ia.add (pi * 2)) = some (.int .i64 op) := hi0 (.int .i64 op) rfl
  rw [hia] at f37
  have hsd := (HS2.out.non (Hc26.out.non hC7)).rs
  have hi1 : 1 ≤ op := (HK.out.ok.ins _ (List.mem_of_getElem? hi)).1
  have Hop : Hid (op = 17 → 1 ≤ s.sn) := fun e => by
    have h9 := (HK.out.cl.step pi (op, N) d hi Hrd.out (by omega)).1
    unfold popsP at h9
    rw [if_pos (by show op = 2 ∨ op = 3 ∨ op = 6 ∨ op = 15 ∨ op = 17 ∨ op = 18 ∨ op = 19; omega)] at h9
    have := Hhsn.out
    omega
  have hslen := (HS1.out).sn
  clear hia hi hi0 hb7 hF7 hC7 D1 D2 D3 D4 D5 D6 D7 D8 D9 D10 D11
  cases hwt : s.wt with
  | false =>
    rw [hwt] at x6
    have Hy : Hid (MyPost w j R s (.returned (.bool true)) w7) := ⟨true, rfl, HC7.out, fun _ => ⟨fi, pi, f, r, Hyes.out, fun e => by rw [hwt] at e; cases e⟩⟩
    clear hwt
    go_wp2_with fail
    exact bodyPost_ret (v := .bool true) (by simp [results, Try.results62, go_sem]) rfl Hy.out
  | true =>
    rw [hwt] at x6
    clear hwt
    by_cases hop : op = 17
    · subst hop
      have h1 := Hop.out rfl
      obtain ⟨sad, v, hsA, hsv, hsc⟩ := hsd.getI (k := s.sn - 1) (by omega)
      rw [hsA] at x3
      have hn1 : ((s.sn : Int) - 1) = ((s.sn - 1 : Nat) : Int) := by omega
      have hn2 : IntKind.i64.wrap ((s.sn : Int) - 1) = ((s.sn - 1 : Nat) : Int) := by rw [IntKind.wrap_i64]; omega
      have Hy : Hid (∀ z, MyPost w j R s (.returned (.bool z)) w7) := fun z => ⟨z, rfl, HC7.out, fun _ => ⟨fi, pi, f, r, Hyes.out, fun _ => h1⟩⟩
      have hsl : s.sn - 1 < s.sn := by omega
      clear hsA hsv hsd
      by_cases hv : 0 ≤ v
      · have D1 := decide_eq_true hv
        go_wp2_with fail
        exact bodyPost_ret (v := .bool (decide (v < s.k))) (by simp [results, Try.results62, go_sem]) rfl (Hy.out _)
      · have D1 := decide_eq_false hv
        go_wp2_with fail
        exact bodyPost_ret (v := .bool false) (by simp [results, Try.results62, go_sem]) rfl (Hy.out _)
    · have hop2 : (op == 17) = false := beq_eq_false_iff_ne.2 hop
      have Hn := Lib.hid (MyPost.no (w := w) (j := j) (R := R) (s := s) HC7.out)
      clear hop hsd
      go_wp2_with fail
      exact bodyPost_ret (v := .bool false) (by simp [results, Try.results62, go_sem]) rfl Hn.out
end Go.Proofs.Yteinbdifncdaiaa
