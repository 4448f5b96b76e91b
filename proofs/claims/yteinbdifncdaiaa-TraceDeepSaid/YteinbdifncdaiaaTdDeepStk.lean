/-
  A stack, as a window on a row; what a step leaves. Plain.
  gleanerref4.(*Known).spawn.
  gleanerref4.do: it answers a number and a bool.
  A step, plain: what the depths grant; what is left when an instruction is done.
-/
import Derived.Test.YteinbdifncdaiaaTdDeepSt
namespace Go.Proofs.Yteinbdifncdaiaa
open Go.RowKit
set_option linter.unusedVariables false
set_option linter.unusedSimpArgs false

theorem add_none (g o k : Nat) : (⟨g, o, none⟩ : Addr).add k = ⟨g, o + k, none⟩ := by
  unfold Addr.add
  split
  · rename_i h; subst h; rfl
  · rfl
/-- A cell of a window of numbers: it may be written. -/
theorem Win.cellI {P : Program} {K : RowKind P} (hK : K.size = 1) {w : World} {ad : Addr} {n c : Nat} {xs : List Value} (h : Win K w (.slice (some ad) n c) n xs) {k : Nat} (hk : k < n) (u : Value) :
    w.frozen? (ad.add k) = false ∧ Win K (w.setCell (ad.add k) u) (.slice (some ad) n c) n (xs.set k u) ∧ Chg (fun b => b = ad.block) w (w.setCell (ad.add k) u) := by
  obtain ⟨hl, h2⟩ := h
  rcases h2 with ⟨e, _⟩ | ⟨g, o, c2, cur, e, hb, h1, h3, h4, h5⟩
  · cases e
  · injection e with e1 e2 e3
    injection e1 with e1
    subst e1 e3
    rw [add_none]
    refine ⟨hb.frozen _, ⟨by rw [List.length_set]; exact hl, .inr ⟨g, o, _, _, rfl, hb.put (o + k) u, h1, h3, by simpa using h4, fun j v hj => ?_⟩⟩, (Chg.refl _ _).set1 _ _⟩
    have hkl : k < xs.length := by rw [hl, hK]; omega
    by_cases e : k = j
    · subst e
      rw [List.getElem?_set_self hkl] at hj
      rw [← hj]
      have : o + k < cur.size := by rw [hK] at h4; omega
      simp [this]
    · rw [List.getElem?_set_ne e] at hj
      rw [Array.getElem?_setIfInBounds_ne (by omega)]
      exact h5 j v hj
/-- A state's rows as windows. -/
structure StW (w : World) (s : Stt) : Prop where
  ws : Win rkN w (.slice s.sA s.sn s.sc) s.sn (iv s.S)
  wl : Win rkN w (.slice s.lA s.ln s.lc) s.ln (iv s.L)
  ap : ∀ b, (Value.slice s.sA s.sn s.sc).ownBlock = some b → (Value.slice s.lA s.ln s.lc).ownBlock ≠ some b
  sn : s.sn ≤ 1000
  ln : s.ln ≤ 1000
def RowB (A : Option Addr) (b : Nat) : Prop := ∃ ad, A = some ad ∧ ad.block = b
theorem own_rowB {A : Option Addr} {n c b : Nat} (h : (Value.slice A n c).ownBlock = some b) : RowB A b := by
  cases A with
  | none => simp [Value.ownBlock] at h
  | some ad => exact ⟨ad, rfl, by simpa [Value.ownBlock] using h⟩
theorem rowB_own {A : Option Addr} {n c b : Nat} (h : RowB A b) : (Value.slice A n c).ownBlock = some b := by
  obtain ⟨ad, rfl, rfl⟩ := h
  rfl
theorem StW.non {w w2 : World} {s : Stt} (h : StW w s) (hc : Chg Non w w2) : StW w2 s := ⟨h.ws.non hc, h.wl.non hc, h.ap, h.sn, h.ln⟩
theorem StW.chg {S : Nat → Prop} {w w2 : World} {s : Stt} (h : StW w s) (hc : Chg S w w2) (h1 : ∀ b, RowB s.sA b → ¬ S b) (h2 : ∀ b, RowB s.lA b → ¬ S b) : StW w2 s := ⟨h.ws.chg hc (fun b hb => h1 b (own_rowB hb)), h.wl.chg hc (fun b hb => h2 b (own_rowB hb)), h.ap, h.sn, h.ln⟩
theorem StW.at_ {w : World} {s : Stt} (h : StW w s) : StAt w s := ⟨h.ws.rds, h.wl.rds, h.sn, h.ln⟩
theorem StOwn.win {w : World} {base : Nat} {s : Stt} (h : StOwn w base s) : StW w s := ⟨Win.of_own h.os, Win.of_own h.ol, h.ap, h.sn, h.ln⟩
/-- The blocks that a step may change. -/
def StB (sb : Nat) (s : Stt) (b : Nat) : Prop := b = sb ∨ RowB s.sA b ∨ RowB s.lA b
/-- What a step leaves: the state's box, its rows, where they lie. -/
structure StGo (w : World) (sb : Nat) (s : Stt) (w2 : World) (s2 : Stt) : Prop where
  box : Blk w2 sb 95 (stC s2)
  win : StW w2 s2
  chg : Chg (StB sb s) w w2
  rs : ∀ b, RowB s2.sA b → RowB s.sA b ∨ w.heap.size ≤ b
  rl : ∀ b, RowB s2.lA b → RowB s.lA b ∨ w.heap.size ≤ b
  u : s2.u = s.u
/-- What an event says behind a step (of k kids, so deep). -/
def EvOk (w w2 : World) (deep : Int) (s s2 : Stt) (ev : Evt) : Prop :=
  ev.kind = 3 ∨ (ev.kind = 1 ∧ s2.k = s.k + 1 ∧ ev.kid = s.k ∧ 0 ≤ s.k ∧ s.k < 16 ∧ deep < 12 ∧ s2.wt = false ∧ Win rkN w2 (.slice ev.A ev.n ev.c) ev.n (iv ev.L) ∧ ev.n ≤ 1000 ∧ ∀ b, RowB ev.A b → w.heap.size ≤ b) ∨
  (ev.kind = 2 ∧ 0 ≤ ev.kid ∧ ev.kid < s.k ∧ s2.k = s.k ∧ s2.wt = true)
/-- What step answers. -/
def SpPost (w : World) (j : Jb) (R : List DRow) (sb : Nat) (deep : Int) (s : Stt) (e : Ending) (w2 : World) : Prop :=
  ∃ s2 ev en, e = .returned (.tuple #[.agg (evC ev), .bool en]) ∧ StGo w sb s w2 s2 ∧ (en = false → (∃ fi pi f r, MayP j R s2 fi pi f r) ∧ s2.wt = false ∧ s2.k = s.k) ∧ (en = true → EvOk w w2 deep s s2 ev)

theorem StGo.same {w w2 : World} {sb : Nat} {s : Stt} (hb : Blk w sb 95 (stC s)) (hs : StW w s) (hc : Chg Non w w2) : StGo w sb s w2 s :=
  ⟨hb.non hc, hs.non hc, hc.of_non, fun b h => .inl h, fun b h => .inl h, rfl⟩
/-- What spawn answers: an event, surely. -/
def SwPost (w : World) (j : Jb) (R : List DRow) (sb : Nat) (deep : Int) (s : Stt) (e : Ending) (w2 : World) : Prop :=
  SpPost w j R sb deep s e w2 ∧ ∃ ev, e = .returned (.tuple #[.agg (evC ev), .bool true])
/-- The state behind a spawn. -/
def stSp (s : Stt) (A : Option Addr) (m c : Nat) : Stt := { s with sA := A, sn := m + 1, sc := c, S := s.S.take m ++ [s.k], k := s.k + 1, p := s.p + 1 }
set_option maxRecDepth 100000 in
set_option maxHeartbeats 16000000 in
theorem refSpawn_any (w : World) (b : Nat) (j : Jb) (dA : Option Addr) (dc : Nat) (R : List DRow) (hk : KnAt w b j dA dc R) (sb : Nat) (s : Stt) (hbx : Blk w sb 95 (stC s)) (hst : StW w s) (q : Nat) (hq : q < j.fn) (g : Fn) (hg : j.F[q]? = some g) (m : Nat) (ham : (s.sn : Int) = m + g.args) (hm9 : m ≤ 990) (hk0 : 0 ≤ s.k) (hk16 : s.k ≤ 16) (hp0 : 0 ≤ s.p) (hp1 : s.p ≤ 1000) (hwt : s.wt = false) (deep : Int) :
    Calls Try.prog 88 #[.pointer (some ⟨b, 0, none⟩), .pointer (some ⟨sb, 0, none⟩), .int .i64 q, .int .i64 deep] w (SwPost w j R sb deep s) := by
  obtain ⟨w1, hw1⟩ : ∃ w1, w.alloc (.cells #[.int .i64 0, .int .i64 0, .int .i64 0, .int .i64 0, .slice none 0 0, .int .i64 0, .int .i64 0] 100) = w1 := ⟨_, rfl⟩
  have hc1 : Chg Non w w1 := hw1 ▸ (Chg.refl _ _).alloc _
  have hr1 : Blk w1 w.heap.size 100 #[.int .i64 0, .int .i64 0, .int .i64 0, .int .i64 0, .slice none 0 0, .int .i64 0, .int .i64 0] := hw1 ▸ Blk.new w _ _
  have hb1 := hbx.non hc1
  have hz1 : w1.heap.size = w.heap.size + 1 := by rw [← hw1]; simp
  have hbl := hb1.lt
  have hbl0 := hbx.lt
  have x5 : w1.cell? ⟨sb, 5, none⟩ = some (.int .i64 s.k) := hb1.cell 5
  have HK := Lib.hid hk
  have Hb := Lib.hid hbx
  have Hs := Lib.hid hst
  have Hc1 := Lib.hid hc1
  have Hr1 := Lib.hid hr1
  have Hb1 := Lib.hid hb1
  have Ham := Lib.hid ham
  have Hwt := Lib.hid hwt
  have Hgq := Lib.hid hg
  clear hc1 hr1 hb1 hk hbx hst ham hwt hg
  by_cases hd : 12 ≤ deep
  · skip
    skip
    go_enter Try.func88, Try.ntmps88
    go_wp2_with fail
    refine (refEnded_lit w1 0 22 0).mono ?_
    rintro e w3 ⟨rfl, hc3⟩
    have hr3 := Hr1.out.non hc3
    have hC3 := Hc1.out.non hc3
    have rl3 := hr3.lt
    obtain ⟨r0, r1, r2, r3, r4, r5, r6⟩ := cell7 hr3
    obtain ⟨z0, z1, z2, z3, z4, z5, z6⟩ : w3.frozen? ⟨w.heap.size, 0, none⟩ = false ∧ w3.frozen? ⟨w.heap.size, 1, none⟩ = false ∧ w3.frozen? ⟨w.heap.size, 2, none⟩ = false ∧ w3.frozen? ⟨w.heap.size, 3, none⟩ = false ∧ w3.frozen? ⟨w.heap.size, 4, none⟩ = false ∧ w3.frozen? ⟨w.heap.size, 5, none⟩ = false ∧ w3.frozen? ⟨w.heap.size, 6, none⟩ = false := ⟨hr3.frozen 0, hr3.frozen 1, hr3.frozen 2, hr3.frozen 3, hr3.frozen 4, hr3.frozen 5, hr3.frozen 6⟩
    obtain ⟨w8, hw8⟩ : ∃ w8, set7 w3 w.heap.size (.int .i64 3) (.int .i64 0) (.int .i64 0) (.int .i64 0) (.slice none 0 0) (.int .i64 22) (.int .i64 0) = w8 := ⟨_, rfl⟩
    have hS8 : Chg (fun b => b = w.heap.size) w3 w8 := hw8 ▸ set7_chg _ _ _ _ _ _ _ _ _
    have hB8 := set7_blk hr3 (.int .i64 3) (.int .i64 0) (.int .i64 0) (.int .i64 0) (.slice none 0 0) (.int .i64 22) (.int .i64 0)
    rw [hw8] at hB8
    obtain ⟨v0, v1, v2, v3, v4, v5, v6⟩ := cell7 hB8
    have hC8 : Chg Non w w8 := hC3.trans2 hS8 (fun b e => .inr (Nat.le_of_eq e.symm))
    have Hres : Hid (SwPost w j R sb deep s (.returned (.tuple #[.agg #[.int .i64 3, .int .i64 0, .int .i64 0, .int .i64 0, .slice none 0 0, .int .i64 22, .int .i64 0], .bool true])) w8) :=
      ⟨⟨s, endEv 0 22 0, true, rfl, StGo.same Hb.out Hs.out hC8, (fun e => by cases e), fun _ => .inl rfl⟩, endEv 0 22 0, rfl⟩
    have Hw8 := Lib.hid hw8
    clear hr3 hC3 hS8 hB8 hw8 hC8 hc3
    go_wp2_with fail
    rw [set7_name, Hw8.out]
    exact bodyPost_ret (v := .tuple #[.agg #[.int .i64 3, .int .i64 0, .int .i64 0, .int .i64 0, .slice none 0 0, .int .i64 22, .int .i64 0], .bool true]) (by simp [results, Try.results88, go_sem, v0, v1, v2, v3, v4, v5, v6]) rfl Hres.out
  have hd2 : deep < 12 := by omega
  clear hd
  by_cases hk6 : s.k = 16
  · skip
    have hk2 : (s.k == 16) = true := by rw [hk6]; rfl
    clear hk6
    go_enter Try.func88, Try.ntmps88
    go_wp2_with fail
    refine (refEnded_lit w1 0 23 0).mono ?_
    rintro e w3 ⟨rfl, hc3⟩
    have hr3 := Hr1.out.non hc3
    have hC3 := Hc1.out.non hc3
    have rl3 := hr3.lt
    obtain ⟨r0, r1, r2, r3, r4, r5, r6⟩ := cell7 hr3
    obtain ⟨z0, z1, z2, z3, z4, z5, z6⟩ : w3.frozen? ⟨w.heap.size, 0, none⟩ = false ∧ w3.frozen? ⟨w.heap.size, 1, none⟩ = false ∧ w3.frozen? ⟨w.heap.size, 2, none⟩ = false ∧ w3.frozen? ⟨w.heap.size, 3, none⟩ = false ∧ w3.frozen? ⟨w.heap.size, 4, none⟩ = false ∧ w3.frozen? ⟨w.heap.size, 5, none⟩ = false ∧ w3.frozen? ⟨w.heap.size, 6, none⟩ = false := ⟨hr3.frozen 0, hr3.frozen 1, hr3.frozen 2, hr3.frozen 3, hr3.frozen 4, hr3.frozen 5, hr3.frozen 6⟩
    obtain ⟨w8, hw8⟩ : ∃ w8, set7 w3 w.heap.size (.int .i64 3) (.int .i64 0) (.int .i64 0) (.int .i64 0) (.slice none 0 0) (.int .i64 23) (.int .i64 0) = w8 := ⟨_, rfl⟩
    have hS8 : Chg (fun b => b = w.heap.size) w3 w8 := hw8 ▸ set7_chg _ _ _ _ _ _ _ _ _
    have hB8 := set7_blk hr3 (.int .i64 3) (.int .i64 0) (.int .i64 0) (.int .i64 0) (.slice none 0 0) (.int .i64 23) (.int .i64 0)
    rw [hw8] at hB8
    obtain ⟨v0, v1, v2, v3, v4, v5, v6⟩ := cell7 hB8
    have hC8 : Chg Non w w8 := hC3.trans2 hS8 (fun b e => .inr (Nat.le_of_eq e.symm))
    have Hres : Hid (SwPost w j R sb deep s (.returned (.tuple #[.agg #[.int .i64 3, .int .i64 0, .int .i64 0, .int .i64 0, .slice none 0 0, .int .i64 23, .int .i64 0], .bool true])) w8) :=
      ⟨⟨s, endEv 0 23 0, true, rfl, StGo.same Hb.out Hs.out hC8, (fun e => by cases e), fun _ => .inl rfl⟩, endEv 0 23 0, rfl⟩
    have Hw8 := Lib.hid hw8
    clear hr3 hC3 hS8 hB8 hw8 hC8 hc3
    go_wp2_with fail
    rw [set7_name, Hw8.out]
    exact bodyPost_ret (v := .tuple #[.agg #[.int .i64 3, .int .i64 0, .int .i64 0, .int .i64 0, .slice none 0 0, .int .i64 23, .int .i64 0], .bool true]) (by simp [results, Try.results88, go_sem, v0, v1, v2, v3, v4, v5, v6]) rfl Hres.out
  have hk2 : (s.k == 16) = false := beq_eq_false_iff_ne.2 hk6
  have hk15 : s.k < 16 := by omega
  clear hk6
  have hsm : m ≤ s.sn := by have := Ham.out; have := (HK.out.ok.argsOk g (List.mem_of_getElem? Hgq.out)).1; omega
  have e1 : (s.sn : Int) - g.args = (m : Int) := by have := Ham.out; omega
  have hsn := Hs.out.sn
  have e2 : IntKind.i64.wrap ((s.sn : Int) - g.args) = (m : Int) := by rw [IntKind.wrap_i64]; omega
  obtain ⟨fad, dad, f, r, hKf⟩ := HK.out.get hq
  have hgf : f = g := by have := hKf.gf; rw [Hgq.out] at this; exact (Option.some.inj this).symm
  subst hgf
  have HKf := Lib.hid hKf
  have hk1 := HK.out.blk.non Hc1.out
  have kl := hk1.lt
  have y0 : w1.cell? ⟨b, 0, none⟩ = some (.slice (some fad) j.fn j.fc) := by
    have := hk1.cell 0
    rw [show (knC j dA j.fn dc)[0]? = some (.slice j.fA j.fn j.fc) from rfl, hKf.fA] at this
    exact this
  have y1 := Hc1.out.cell hKf.c1 id
  have yz : (fad.add (q * 4)).block < w1.heap.size := World.block_lt_of_cell? w1 _ (Hc1.out.cell hKf.c0 id)
  have x3 : w1.cell? ⟨sb, 3, none⟩ = some (.slice s.sA s.sn s.sc) := Hb1.out.cell 3
  have b1 : (0 : Int) ≤ (q : Int) := by omega
  have b2 : (q : Int) < j.fn := by omega
  have Hk0 := Lib.hid hk0
  have Hm9 := Lib.hid hm9
  clear hKf hk1 hk0 hk16 hm9
  go_enter Try.func88, Try.ntmps88
  go_wp2_with fail
  go_quiet (fail)
  obtain ⟨w2, hw2⟩ : ∃ w2, w1.drewN nq = w2 := ⟨_, rfl⟩
  rw [hw2]
  have hd2' : Chg Non w1 w2 := hw2 ▸ (Chg.refl _ _).drewN nq
  have hc02 := Hc1.out.non hd2'
  have hb2 := Hb1.out.non hd2'
  have hs2 := Hs.out.non hc02
  have hr2 := Hr1.out.non hd2'
  have hbl2 := hb2.lt
  have g3 : ∀ wx, Chg Non w2 wx → wx.cell? ⟨sb, 3, none⟩ = some (.slice s.sA s.sn s.sc) := fun wx h => (hb2.non h).cell 3
  have g5 : ∀ wx, Chg Non w2 wx → wx.cell? ⟨sb, 5, none⟩ = some (.int .i64 s.k) := fun wx h => (hb2.non h).cell 5
  obtain ⟨A0, c0, hac, hcn, hcm, hrs⟩ := hs2.ws.open_
  injection hac with hA0 _ hc0
  subst hA0 hc0
  have q5 := fun w => run_slice_lo (P := Try.prog) Try.underlying27 1 (by kernel_rfl) (by kernel_rfl) (kl := .i64) (i := (m : Int)) (k := m) (n := s.sn) rfl hsm s.sA s.sc w
  have hrd := hrs.cutA (k := m) hsm hcn
  simp only [Nat.mul_one, show rkN.size = 1 from rfl] at hrd
  have hdr : (iv s.S).drop m = iv (s.S.drop m) := by simp [iv, List.map_drop]
  rw [hdr] at hrd
  generalize cutA s.sA s.sc m 1 = B0 at q5 hrd
  have HB2 := Lib.hid hb2
  have HS2 := Lib.hid hs2
  have HR2 := Lib.hid hr2
  have HC02 := Lib.hid hc02
  have Hrd := Lib.hid hrd
  have Hscn := Lib.hid hcn
  have hlm : s.sn - m ≤ 1000 := by omega
  have Hsl : Hid (s.sn - m ≤ s.sn) := by show _ ≤ _; omega
  clear y0 y1 yz x3 x5 hw1 hz1 hbl hw2 hd2' hc02 hb2 hs2 hr2 hrd hdr hrs hcn hcm e1 e2 kl
  go_wp2_with fail
  refine y_region_tail 12 14 Non [11] [13] (fun _ _ _ _ => True) (fun _ _ v wx => OwnR rkN wx w2.heap.size v (s.sn - m) (iv (s.S.drop m))) (fun _ _ v => ∃ A2 c2, v = .slice A2 (s.sn - m) c2) (fun _ => True) (by kernel_rfl) (by kernel_rfl) (by kernel_rfl) (fun _ h => h.elim) trivial (fun _ _ _ => trivial) ?_
  repeat (first | (refine y_plain (Non) (w2) rfl rfl (f := ?_) (a2 := ?_) (k2 := ?_) (wanted_none rfl) rfl rfl (fun w hC hG => ?_) ?_ ?_ ?_ rfl; rotate_left 3; (clear hG; first | (go_simp; done) | (go_simp; with_reducible rfl) | (simp [*, go_sem, ↓IntWalk.iteOmega]; done) | (simp [*, go_sem, ↓IntWalk.iteOmega]; with_reducible rfl)); (simp only [Act.put, List.setIfInBounds_toArray, List.set_cons_succ, List.set_cons_zero]; with_reducible exact rfl); ((conv => lhs; simp only [Nat.reduceAdd]); try with_reducible exact rfl)) | (refine y_pass (a2 := ?_) (k2 := ?_) (wanted_no rfl rfl rfl rfl) ?_ ?_ ?_ rfl; rotate_left 2; (simp only [Act.put, List.setIfInBounds_toArray, List.set_cons_succ, List.set_cons_zero]; with_reducible exact rfl); ((conv => lhs; simp only [Nat.reduceAdd]); try with_reducible exact rfl)) | (refine y_plain (Non) (w2) rfl rfl (f := ?_) (a2 := ?_) (k2 := ?_) (wanted_yes rfl rfl rfl) rfl rfl (fun w hC hG => ?_) ?_ ?_ ?_ rfl; rotate_left 3; (clear hG; first | (go_simp; done) | (go_simp; with_reducible rfl) | (simp [*, go_sem, ↓IntWalk.iteOmega]; done) | (simp [*, go_sem, ↓IntWalk.iteOmega]; with_reducible rfl)); (simp only [Act.put, List.setIfInBounds_toArray, List.set_cons_succ, List.set_cons_zero]; with_reducible exact rfl); ((conv => lhs; simp only [Nat.reduceAdd]); try with_reducible exact rfl)))
  refine y_major (Non) (w2) rfl rfl (a2 := ?_) (k2 := ?_) (wanted_none rfl) rfl (⟨_, none, 0, rfl⟩) (fun _ _ _ _ h2 h => OwnR.non h h2) (fun _ _ _ _ => trivial) (fun w hC hG hS => ?_) (fun v => ?_) ?_ (fun v hv => ?_) rfl
  rotate_left 3
  (simp only [Act.put, List.setIfInBounds_toArray, List.set_cons_succ, List.set_cons_zero]; with_reducible exact rfl)
  ((conv => lhs; simp only [Nat.reduceAdd]); try with_reducible exact rfl)
  rotate_left
  · refine settle_appR (K := rkN) _ (.tmp 46) rfl (OwnR.nil rkN w w.heap.size) rfl ((Hrd.out.non hC)) rfl (iv_one _) (by omega) (Nat.le_refl _) ?_
    intro v2 w3 h2 h3 h4
    obtain ⟨A2, c2, rfl, _⟩ := h2.open_
    simp only [Nat.zero_add, List.nil_append] at h2 ⊢
    exact ⟨⟨A2, c2, rfl⟩, h3.mono (fun b e => by cases e), trivial, h2.mono hC.size⟩
  obtain ⟨A2, c2, rfl⟩ := hv
  repeat (first | (refine y_plain (Non) (w2) rfl rfl (f := ?_) (a2 := ?_) (k2 := ?_) (wanted_none rfl) rfl rfl (fun w hC hG => ?_) ?_ ?_ ?_ rfl; rotate_left 3; (clear hG; first | (go_simp; done) | (go_simp; with_reducible rfl) | (simp [*, go_sem, ↓IntWalk.iteOmega]; done) | (simp [*, go_sem, ↓IntWalk.iteOmega]; with_reducible rfl)); (simp only [Act.put, List.setIfInBounds_toArray, List.set_cons_succ, List.set_cons_zero]; with_reducible exact rfl); ((conv => lhs; simp only [Nat.reduceAdd]); try with_reducible exact rfl)) | (refine y_pass (a2 := ?_) (k2 := ?_) (wanted_no rfl rfl rfl rfl) ?_ ?_ ?_ rfl; rotate_left 2; (simp only [Act.put, List.setIfInBounds_toArray, List.set_cons_succ, List.set_cons_zero]; with_reducible exact rfl); ((conv => lhs; simp only [Nat.reduceAdd]); try with_reducible exact rfl)) | (refine y_plain (Non) (w2) rfl rfl (f := ?_) (a2 := ?_) (k2 := ?_) (wanted_yes rfl rfl rfl) rfl rfl (fun w hC hG => ?_) ?_ ?_ ?_ rfl; rotate_left 3; (clear hG; first | (go_simp; done) | (go_simp; with_reducible rfl) | (simp [*, go_sem, ↓IntWalk.iteOmega]; done) | (simp [*, go_sem, ↓IntWalk.iteOmega]; with_reducible rfl)); (simp only [Act.put, List.setIfInBounds_toArray, List.set_cons_succ, List.set_cons_zero]; with_reducible exact rfl); ((conv => lhs; simp only [Nat.reduceAdd]); try with_reducible exact rfl)))
  refine y_minor (Non) (w2) rfl rfl (ob := .cells #[.int .i64 0, .int .i64 0, .int .i64 0, .int .i64 0, .slice none 0 0, .int .i64 0, .int .i64 0] 100) (kd := none) (a2 := ?_) (k2 := ?_) (wanted_none rfl) rfl rfl (fun w hC hG => ?_) (fun g => ?_) ?_ (fun g => ?_) rfl
  rotate_left 2
  · clear hG; first | (go_simp; done) | (go_simp; rfl)
  (simp only [Act.put, mkv, List.setIfInBounds_toArray, List.set_cons_succ, List.set_cons_zero]; with_reducible exact rfl)
  ((conv => lhs; simp only [Nat.reduceAdd]); try with_reducible exact rfl)
  refine y_tail Non w2 rfl rfl rfl (fun w5 hC5 _ hG => ?_)
  simp only [List.drop_succ_cons, List.drop_zero]
  have hE5 : Blk w5 g 100 #[.int .i64 0, .int .i64 0, .int .i64 0, .int .i64 0, .slice none 0 0, .int .i64 0, .int .i64 0] := (hG 13).2
  have hgE : w2.heap.size ≤ g := (hG 13).1
  have ho5 : OwnR rkN w5 w2.heap.size (.slice A2 (s.sn - m) c2) (s.sn - m) (iv (s.S.drop m)) := hG 11
  clear hG g3 g5 q5
  refine wpList_store_all rfl (.tmp 11) (.tmp 48) rfl (cs := #[.int .i64 1, .int .i64 q, .int .i64 s.k, .int .i64 0, .slice A2 (s.sn - m) c2, .int .i64 0, .int .i64 0]) rfl rfl hE5 rfl (by kernel_rfl) (by simp [Value.oneCell']) ?_
  intro w6 hE6 hS6
  obtain ⟨ge, hge⟩ : ∃ ge, ge = g := ⟨_, rfl⟩
  subst hge
  have ho6 := ho5.chg hS6 (fun g2 hg2 e => ho5.apart hE5 (by decide) (by rw [hg2, show g2 = ge from e]))
  have hC6 : Chg Non w2 w6 := hC5.trans2 hS6 (fun b e => .inr (by have e : b = ge := e; omega))
  have hb6 := HB2.out.non hC6
  have hs6 := HS2.out.non hC6
  have hr6 := HR2.out.non hC6
  have hc06 := HC02.out.non hC6
  have hbl6 := hb6.lt
  have hap : ¬ RowB s.sA sb := fun h => hs6.ws.apart hb6 (by decide) (rowB_own h)
  have g3 : ∀ wx, Chg (RowB s.sA) w6 wx → wx.cell? ⟨sb, 3, none⟩ = some (.slice s.sA s.sn s.sc) := fun wx h => (hb6.chg h hap).cell 3
  have g5 : ∀ wx, Chg (RowB s.sA) w6 wx → wx.cell? ⟨sb, 5, none⟩ = some (.int .i64 s.k) := fun wx h => (hb6.chg h hap).cell 5
  have q6 := fun w => run_slice_hi (P := Try.prog) Try.underlying27 (by kernel_rfl) (kl := .i64) (i := (m : Int)) (k := m) (c := s.sc) rfl (Nat.le_trans hsm Hscn.out) s.sA s.sn w
  have hlow : ∀ b, RowB s.sA b → b < w6.heap.size := fun b hb => hs6.ws.lt (rowB_own hb)
  have hwin6 := hs6.ws.hi (k := m) hsm
  simp only [Nat.mul_one, show rkN.size = 1 from rfl] at hwin6
  rw [show (iv s.S).take m = iv (s.S.take m) by simp [iv, List.map_take]] at hwin6
  have HB6 := Lib.hid hb6
  have HS6 := Lib.hid hs6
  have HR6 := Lib.hid hr6
  have HC06 := Lib.hid hc06
  have HE6 := Lib.hid hE6
  have HO6 := Lib.hid ho6
  have Hap := Lib.hid hap
  have Hg : Hid (w.heap.size < ge) := by show _ < _; have := HR2.out.lt; omega
  clear hE5 ho5 hS6 hC5 hb6 hs6 hr6 hc06 hE6 ho6 hap hgE hC6
  simp only [Act.put, List.setIfInBounds_toArray, List.set_cons_succ, List.set_cons_zero]
  go_wp2_with fail
  refine y_region_tail 12 13 (RowB s.sA) [12] [11] (fun _ _ v w2 => Win rkN w2 v (m + 1) (iv (s.S.take m) ++ [.int .i64 s.k]) ∧ (∀ b, v.ownBlock = some b → RowB s.sA b ∨ w6.heap.size ≤ b)) (fun _ _ _ _ => True) (fun _ _ v => ∃ A4 c4, v = .slice A4 (m + 1) c4) (fun wx => Win rkN wx (.slice s.sA m s.sc) m (iv (s.S.take m))) (by kernel_rfl) (by kernel_rfl) (by kernel_rfl) hlow hwin6 (fun _ _ h => h.alloc _) ?_
  repeat (first | (refine y_plain (RowB s.sA) (w6) rfl rfl (f := ?_) (a2 := ?_) (k2 := ?_) (wanted_none rfl) rfl rfl (fun w hC hG => ?_) ?_ ?_ ?_ rfl; rotate_left 3; (clear hG; first | (go_simp; done) | (go_simp; with_reducible rfl) | (simp [*, go_sem, ↓IntWalk.iteOmega]; done) | (simp [*, go_sem, ↓IntWalk.iteOmega]; with_reducible rfl)); (simp only [Act.put, List.setIfInBounds_toArray, List.set_cons_succ, List.set_cons_zero]; with_reducible exact rfl); ((conv => lhs; simp only [Nat.reduceAdd]); try with_reducible exact rfl)) | (refine y_pass (a2 := ?_) (k2 := ?_) (wanted_no rfl rfl rfl rfl) ?_ ?_ ?_ rfl; rotate_left 2; (simp only [Act.put, List.setIfInBounds_toArray, List.set_cons_succ, List.set_cons_zero]; with_reducible exact rfl); ((conv => lhs; simp only [Nat.reduceAdd]); try with_reducible exact rfl)) | (refine y_plain (RowB s.sA) (w6) rfl rfl (f := ?_) (a2 := ?_) (k2 := ?_) (wanted_yes rfl rfl rfl) rfl rfl (fun w hC hG => ?_) ?_ ?_ ?_ rfl; rotate_left 3; (clear hG; first | (go_simp; done) | (go_simp; with_reducible rfl) | (simp [*, go_sem, ↓IntWalk.iteOmega]; done) | (simp [*, go_sem, ↓IntWalk.iteOmega]; with_reducible rfl)); (simp only [Act.put, List.setIfInBounds_toArray, List.set_cons_succ, List.set_cons_zero]; with_reducible exact rfl); ((conv => lhs; simp only [Nat.reduceAdd]); try with_reducible exact rfl)))
  refine y_minor (RowB s.sA) (w6) rfl rfl (ob := .cells #[.int .i64 s.k] 3) (kd := some (1, 1)) (a2 := ?_) (k2 := ?_) (wanted_none rfl) rfl rfl (fun w hC hG => ?_) (fun g => ?_) ?_ (fun g => ?_) rfl
  rotate_left 2
  · clear hG; first | (go_simp; done) | (go_simp; rfl)
  (simp only [Act.put, mkv, List.setIfInBounds_toArray, List.set_cons_succ, List.set_cons_zero]; with_reducible exact rfl)
  ((conv => lhs; simp only [Nat.reduceAdd]); try with_reducible exact rfl)
  refine y_major (RowB s.sA) (w6) rfl rfl (a2 := ?_) (k2 := ?_) (wanted_none rfl) rfl (⟨_, none, 0, rfl⟩) (fun _ _ _ _ _ _ => trivial) (fun v w ob h => ⟨h.1.alloc ob, h.2⟩) (fun w hC hG hS => ?_) (fun v => ?_) ?_ (fun v hv => ?_) rfl
  rotate_left 3
  (simp only [Act.put, List.setIfInBounds_toArray, List.set_cons_succ, List.set_cons_zero]; with_reducible exact rfl)
  ((conv => lhs; simp only [Nat.reduceAdd]); try with_reducible exact rfl)
  rotate_left
  · have hB := Rds.blockN (m := 1) (size := 1) (show Blk w g 3 #[.int .i64 s.k] from (hG 11 rfl).2) rfl
    refine settle_appW (K := rkN) (.tmp 55) (.tmp 60) rfl hS rfl hB rfl (iv_one [s.k]) (by omega) ?_
    intro v2 w3 h2 h3 h4
    obtain ⟨A4, c4, rfl, _⟩ := h2.open_
    refine ⟨⟨A4, c4, rfl⟩, h3.mono (fun b e => own_rowB e), ⟨h2, fun b hb => ?_⟩, trivial⟩
    rcases h4 b hb with h5 | h5
    · exact .inl (own_rowB h5)
    · exact .inr (Nat.le_trans hC.size h5)
  obtain ⟨A4, c4, rfl⟩ := hv
  refine y_tail (RowB s.sA) w6 rfl rfl rfl (fun w7 hC7 hS7 _ => ?_)
  simp only [List.drop_succ_cons, List.drop_zero]
  obtain ⟨hw7, ho7⟩ := hS7
  have hb7 := HB6.out.chg hC7 Hap.out
  have hE7 := HE6.out.chg hC7 (fun h => HS6.out.ws.apart HE6.out (by decide) (rowB_own h))
  have hr7 := HR6.out.chg hC7 (fun h => HS6.out.ws.apart HR6.out (by decide) (rowB_own h))
  have hl7 := HS6.out.wl.chg hC7 (fun b hb h => HS6.out.ap b (rowB_own h) hb)
  have hO7 := HO6.out.chg hC7 (fun b hb h => by have := (HO6.out.lt hb).1; have := HS2.out.ws.lt (rowB_own (n := s.sn) (c := s.sc) h); omega)
  have x3 : w7.cell? ⟨sb, 3, none⟩ = some (.slice s.sA s.sn s.sc) := hb7.cell 3
  have x5 : w7.cell? ⟨sb, 5, none⟩ = some (.int .i64 s.k) := hb7.cell 5
  have x1 : w7.cell? ⟨sb, 1, none⟩ = some (.int .i64 s.p) := hb7.cell 1
  have f3 := hb7.frozen 3
  have f5 := hb7.frozen 5
  have f1 := hb7.frozen 1
  have hbl7 := hb7.lt
  obtain ⟨w10, hw10⟩ : ∃ w10, ((w7.setCell ⟨sb, 3, none⟩ (.slice A4 (m + 1) c4)).setCell ⟨sb, 5, none⟩ (.int .i64 (s.k + 1))).setCell ⟨sb, 1, none⟩ (.int .i64 (s.p + 1)) = w10 := ⟨_, rfl⟩
  have hS10 : Chg (fun b => b = sb) w7 w10 := hw10 ▸ (((Chg.refl _ _).set1 3 _).set1 5 _).set1 1 _
  have hb10 := ((hb7.put 3 (.slice A4 (m + 1) c4)).put 5 (.int .i64 (s.k + 1))).put 1 (.int .i64 (s.p + 1))
  rw [hw10] at hb10
  unfold stC at hb10
  simp only [List.setIfInBounds_toArray, List.set_cons_succ, List.set_cons_zero] at hb10
  have hnge : ge ≠ sb := fun e => by have := Hg.out; omega
  have hnr : w.heap.size ≠ sb := fun e => by omega
  have hE10 := hE7.chg hS10 hnge
  have hr10 := hr7.chg hS10 hnr
  have hw10w : Win rkN w10 (.slice A4 (m + 1) c4) (m + 1) (iv (s.S.take m) ++ [.int .i64 s.k]) := hw7.chg hS10 (fun b hb e => by rw [show b = sb from e] at hb; exact hw7.apart hb7 (by decide) hb)
  have hl10 := hl7.chg hS10 (fun b hb e => by rw [show b = sb from e] at hb; exact hl7.apart hb7 (by decide) hb)
  have hO10 := hO7.chg hS10 (fun b hb e => by rw [show b = sb from e] at hb; exact hO7.apart hb7 (by decide) hb)
  obtain ⟨e0, e1, e2, e3, e4, e5, e6⟩ := cell7 hE10
  obtain ⟨y0, y1, y2, y3, y4, y5, y6⟩ := cell7 hr10
  obtain ⟨z0, z1, z2, z3, z4, z5, z6⟩ : w10.frozen? ⟨w.heap.size, 0, none⟩ = false ∧ w10.frozen? ⟨w.heap.size, 1, none⟩ = false ∧ w10.frozen? ⟨w.heap.size, 2, none⟩ = false ∧ w10.frozen? ⟨w.heap.size, 3, none⟩ = false ∧ w10.frozen? ⟨w.heap.size, 4, none⟩ = false ∧ w10.frozen? ⟨w.heap.size, 5, none⟩ = false ∧ w10.frozen? ⟨w.heap.size, 6, none⟩ = false := ⟨hr10.frozen 0, hr10.frozen 1, hr10.frozen 2, hr10.frozen 3, hr10.frozen 4, hr10.frozen 5, hr10.frozen 6⟩
  have gl10 := hE10.lt
  have rl10 := hr10.lt
  obtain ⟨w11, hw11⟩ : ∃ w11, set7 w10 w.heap.size (.int .i64 1) (.int .i64 q) (.int .i64 s.k) (.int .i64 0) (.slice A2 (s.sn - m) c2) (.int .i64 0) (.int .i64 0) = w11 := ⟨_, rfl⟩
  have hS11 : Chg (fun b => b = w.heap.size) w10 w11 := hw11 ▸ set7_chg _ _ _ _ _ _ _ _ _
  have hB11 := set7_blk hr10 (.int .i64 1) (.int .i64 q) (.int .i64 s.k) (.int .i64 0) (.slice A2 (s.sn - m) c2) (.int .i64 0) (.int .i64 0)
  rw [hw11] at hB11
  obtain ⟨v0, v1, v2, v3, v4, v5, v6⟩ := cell7 hB11
  have hCC : Chg (StB sb s) w w11 := (((HC06.out.of_non.trans2 hC7 (fun b h => .inl (.inr (.inl h)))).trans2 hS10 (fun b e => .inl (.inl e))).trans2 hS11 (fun b e => .inr (Nat.le_of_eq e.symm)))
  have hkp : IntKind.i64.wrap (s.k + 1) = s.k + 1 := by have := Hk0.out; rw [IntKind.wrap_i64]; omega
  have hpp : IntKind.i64.wrap (s.p + 1) = s.p + 1 := by rw [IntKind.wrap_i64]; omega
  have hs11 : ∀ b, b ≠ sb → b ≠ w.heap.size → True := fun _ _ _ => trivial
  have Hres : Hid (SwPost w j R sb deep s (.returned (.tuple #[.agg #[.int .i64 1, .int .i64 q, .int .i64 s.k, .int .i64 0, .slice A2 (s.sn - m) c2, .int .i64 0, .int .i64 0], .bool true])) w11) := by
    refine ⟨⟨stSp s A4 m c4, ⟨1, q, s.k, 0, A2, s.sn - m, c2, s.S.drop m, 0, 0⟩, true, rfl, ⟨?_, ⟨?_, ?_, ?_, ?_, Hs.out.ln⟩, hCC, ?_, fun b h => .inl h, rfl⟩, fun e => (by cases e), fun _ => .inr (.inl ⟨rfl, rfl, rfl, Hk0.out, hk15, hd2, Hwt.out, ?_, by show s.sn - m ≤ 1000; omega, ?_⟩)⟩, ⟨1, q, s.k, 0, A2, s.sn - m, c2, s.S.drop m, 0, 0⟩, rfl⟩
    · exact hb10.chg hS11 (fun e => hnr e.symm)
    · have h9 := hw10w.chg hS11 (fun b hb e => by rw [show b = w.heap.size from e] at hb; exact hw10w.apart hr10 (by decide) hb)
      show Win rkN w11 (.slice A4 (m + 1) c4) (m + 1) (iv (s.S.take m ++ [s.k]))
      rw [iv_app]
      exact h9
    · exact hl10.chg hS11 (fun b hb e => by rw [show b = w.heap.size from e] at hb; exact hl10.apart hr10 (by decide) hb)
    · intro b hb hb2
      rcases ho7 b hb with h | h
      · exact HS6.out.ap b (rowB_own h) hb2
      · have := HS6.out.wl.lt hb2
        omega
    · show m + 1 ≤ 1000
      have := Hm9.out
      omega
    · intro b hb
      rcases ho7 b (rowB_own (n := m + 1) (c := c4) hb) with h | h
      · exact .inl h
      · exact .inr (Nat.le_trans HC06.out.size h)
    · exact Win.of_own (hO10.chg hS11 (fun b hb e => by rw [show b = w.heap.size from e] at hb; exact hO10.apart hr10 (by decide) hb))
    · intro b hb
      have h1 := (hO10.lt (rowB_own (n := s.sn - m) (c := c2) hb)).1
      exact Nat.le_trans HC02.out.size h1
  have Hw11 := Lib.hid hw11
  clear hw7 ho7 hb7 hE7 hr7 hl7 hO7 hS10 hb10 hE10 hr10 hw10w hl10 hO10 hS11 hB11 hCC hw11 hs11 hC7
  go_wp2_with fail
  rw [set7_name, Hw11.out]
  exact bodyPost_ret (v := .tuple #[.agg #[.int .i64 1, .int .i64 q, .int .i64 s.k, .int .i64 0, .slice A2 (s.sn - m) c2, .int .i64 0, .int .i64 0], .bool true]) (by simp [results, Try.results88, go_sem, v0, v1, v2, v3, v4, v5, v6]) rfl Hres.out

def SomeR (e : Ending) : Prop := ∃ r b, e = .returned (.tuple #[.int .i64 r, .bool b])
theorem SomeR.of (r : Int) (b : Bool) : SomeR (.returned (.tuple #[.int .i64 r, .bool b])) := ⟨r, b, rfl⟩
set_option maxRecDepth 100000 in
set_option maxHeartbeats 4000000 in
theorem refDo_any (w : World) (op a b : Int) (h : op = 7 ∨ op = 8 ∨ op = 9 ∨ op = 10 ∨ op = 11 ∨ op = 12 ∨ op = 13) :
    Calls Try.prog 87 #[.int .i64 op, .int .i64 a, .int .i64 b] w fun e w2 => SomeR e ∧ w = w2 := by
  have hcases : b = 0 ∨ b ≠ 0 := Classical.em _
  rcases hcases with hb | hb
  · subst hb
    rcases h with rfl | rfl | rfl | rfl | rfl | rfl | rfl
    all_goals
      go_enter Try.func87, Try.ntmps87
      go_wp2_with fail
      all_goals
        go_ret2
        exact ⟨SomeR.of _ _, rfl⟩
  · have hb2 : (b == 0) = false := beq_eq_false_iff_ne.2 hb
    rcases h with rfl | rfl | rfl | rfl | rfl | rfl | rfl
    all_goals
      go_enter Try.func87, Try.ntmps87
      go_wp2_with fail
      all_goals
        go_ret2
        exact ⟨SomeR.of _ _, rfl⟩

theorem stepOk {j : Jb} {R : List DRow} {s : Stt} {fi pi : Nat} {f : Fn} {r : DRow} (hm : MayP j R s fi pi f r) (hcl : Closed j.F f.code r.D) (hcn : f.cn = f.code.length) (hA : ArgsOk j.F) {i : Int × Int} (hi : f.code[pi]? = some i) :
    popsP j.F i ≤ s.sn ∧ s.sn ≤ 32 ∧ (s.sn : Int) - popsP j.F i + pushP i ≤ 32 ∧ ∀ t ∈ nextP i pi, ∃ q : Nat, t = q ∧ q < f.cn ∧ r.D[q]? = some ((s.sn : Int) - popsP j.F i + pushP i) := by
  have h1 := hcl.low _ (List.mem_of_getElem? hm.d)
  obtain ⟨h2, h3, h4⟩ := hcl.step pi i s.sn hi hm.d (by omega)
  have h5 := nAt_is hA (d := s.sn) (by omega) (by omega) i
  rw [h5] at h3 h4
  refine ⟨h2, by omega, h3, fun t ht => ?_⟩
  obtain ⟨q, e1, e2, e3⟩ := h4 t ht
  exact ⟨q, e1, by omega, e3⟩
/-- An instruction is done: no event. -/
theorem sp_end {w W0 W : World} {j : Jb} {R : List DRow} {sb r6 : Nat} {deep : Int} {s : Stt} {fi pi : Nat} {f : Fn} {r : DRow} (hm : MayP j R s fi pi f r) (hst : StW w s) {cs cs2 : Array Value}
    (hS : Chg (fun b => b = sb ∨ b = r6) W0 W) (hb0 : Blk W0 sb 95 cs) (hr0 : Blk W0 r6 100 cs2) (hr6 : w.heap.size ≤ r6)
    {A2 : Option Addr} {n2 c2 : Nat} {S2 L2 : List Int} {q : Nat} {p2 : Int}
    (hbW : Blk W sb 95 #[.int .i64 fi, .int .i64 p2, .int .i64 s.u, .slice A2 n2 c2, .slice s.lA s.ln s.lc, .int .i64 s.k, .bool false])
    (hw : Win rkN W0 (.slice A2 n2 c2) n2 (iv S2)) (hl : Win rkN W0 (.slice s.lA s.ln s.lc) s.ln (iv L2)) (hC : Chg (StB sb s) w W0) (ho : ∀ b, RowB A2 b → RowB s.sA b ∨ w.heap.size ≤ b)
    (hn2 : n2 ≤ 1000) (hp : p2 = q) (hq : q < f.cn) (hd : r.D[q]? = some (n2 : Int)) :
    SpPost w j R sb deep s (.returned (.tuple #[.agg #[.int .i64 0, .int .i64 0, .int .i64 0, .int .i64 0, .slice none 0 0, .int .i64 0, .int .i64 0], .bool false])) W := by
  have h1 : ∀ (v : Value) (n : Nat) (xs : List Value), Win rkN W0 v n xs → Win rkN W v n xs := fun v n xs h => h.chg hS (fun b hb e => by
    rcases e with e | e
    · rw [e] at hb; exact h.apart hb0 (by decide) hb
    · rw [e] at hb; exact h.apart hr0 (by decide) hb)
  have hCW : Chg (StB sb s) w W := hC.trans2 hS (fun b e => e.elim (fun e => .inl (.inl e)) (fun e => .inr (by omega)))
  refine ⟨{ s with f := fi, p := p2, sA := A2, sn := n2, sc := c2, S := S2, L := L2, wt := false }, ev0, false, rfl, ⟨hbW, ⟨h1 _ _ _ hw, h1 _ _ _ hl, fun b hb hb2 => ?_, hn2, hst.ln⟩, hCW, fun b hb => ho b hb, fun b hb => .inl hb, rfl⟩, fun _ => ⟨⟨fi, q, f, r, rfl, hp, hm.fl, hm.gf, hm.gr, hd, hq, hm.ln, hm.k0, hm.k16, hm.u0, hm.u1⟩, rfl, rfl⟩, fun e => by cases e⟩
  rcases ho b (own_rowB hb) with h | h
  · exact hst.ap b (rowB_own h) hb2
  · have := hst.wl.lt hb2
    omega
/-- An event ends the step; the state stays as it was, but for what it says of waiting. -/
theorem sp_ev {w W0 W : World} {j : Jb} {R : List DRow} {sb r6 : Nat} {deep : Int} {s : Stt} {fi : Nat} (hst : StW w s) {cs cs2 : Array Value} {t : Bool} {ev : Evt}
    (hS : Chg (fun b => b = sb ∨ b = r6) W0 W) (hb0 : Blk W0 sb 95 cs) (hr0 : Blk W0 r6 100 cs2) (hr6 : w.heap.size ≤ r6)
    (hbW : Blk W sb 95 (stC { s with wt := t })) (hC : Chg Non w W0)
    (hev : ev.kind = 3 ∨ (ev.kind = 2 ∧ 0 ≤ ev.kid ∧ ev.kid < s.k ∧ t = true)) :
    SpPost w j R sb deep s (.returned (.tuple #[.agg (evC ev), .bool true])) W := by
  have h1 : ∀ (v : Value) (n : Nat) (xs : List Value), Win rkN W0 v n xs → Win rkN W v n xs := fun v n xs h => h.chg hS (fun b hb e => by
    rcases e with e | e
    · rw [e] at hb; exact h.apart hb0 (by decide) hb
    · rw [e] at hb; exact h.apart hr0 (by decide) hb)
  refine ⟨{ s with wt := t }, ev, true, rfl, ⟨hbW, ⟨h1 _ _ _ (hst.ws.non hC), h1 _ _ _ (hst.wl.non hC), hst.ap, hst.sn, hst.ln⟩, (hC.of_non.trans2 hS (fun b e => e.elim (fun e => .inl (.inl e)) (fun e => .inr (by omega)))), fun b h => .inl h, fun b h => .inl h, rfl⟩, (fun e => by cases e), fun _ => ?_⟩
  rcases hev with h | ⟨h1, h2, h3, h4⟩
  · exact .inl h
  · exact .inr (.inr ⟨h1, h2, h3, rfl, h4⟩)
/-- A spawn's event is handed on. -/
theorem sp_spawn {w w6 w7 W : World} {j : Jb} {R : List DRow} {sb r6 : Nat} {deep : Int} {s s2 : Stt} {ev : Evt} {cs2 : Array Value} (hC6 : Chg Non w w6) (hz : r6 < w6.heap.size) (hr6 : w.heap.size ≤ r6) (hrb : Blk w7 r6 100 cs2) (hsb : sb ≠ r6)
    (hS : Chg (fun b => b = r6) w7 W) (hgo : StGo w6 sb s w7 s2) (hev : EvOk w6 w7 deep s s2 ev) : SpPost w j R sb deep s (.returned (.tuple #[.agg (evC ev), .bool true])) W := by
  have h1 : ∀ (v : Value) (n : Nat) (xs : List Value), Win rkN w7 v n xs → Win rkN W v n xs := fun v n xs h => h.chg hS (fun b hb e => by rw [show b = r6 from e] at hb; exact h.apart hrb (by decide) hb)
  refine ⟨s2, ev, true, rfl, ⟨hgo.box.chg hS hsb, ⟨h1 _ _ _ hgo.win.ws, h1 _ _ _ hgo.win.wl, hgo.win.ap, hgo.win.sn, hgo.win.ln⟩, (hC6.of_non.trans2 hgo.chg (fun b e => .inl e)).trans2 hS (fun b e => .inr (by have e : b = r6 := e; omega)), fun b hb => (hgo.rs b hb).imp id (fun h => Nat.le_trans hC6.size h), fun b hb => (hgo.rl b hb).imp id (fun h => Nat.le_trans hC6.size h), hgo.u⟩, (fun e => by cases e), fun _ => ?_⟩
  rcases hev with h | ⟨a1, a2, a3, a4, a5, a6, a7, a8, a9, a10⟩ | ⟨a1, a2, a3, a4, a5⟩
  · exact .inl h
  · exact .inr (.inl ⟨a1, a2, a3, a4, a5, a6, a7, a8.chg hS (fun b hb e => by have := a10 b (own_rowB hb); have e : b = r6 := e; omega), a9, fun b hb => Nat.le_trans hC6.size (a10 b hb)⟩)
  · exact .inr (.inr ⟨a1, a2, a3, a4, a5⟩)
end Go.Proofs.Yteinbdifncdaiaa
