/-
  gleanerref4.(*all).do.
-/
import Derived.Test.YteinbdifncdaiaaTdRefKid
namespace Go.Proofs.Yteinbdifncdaiaa
open Go.RowKit
set_option linter.unusedVariables false
set_option linter.unusedSimpArgs false

/-- The contract of a task by name. -/
def DoC (w0 : World) (kb ab : Nat) (id : ByteArray) : Prop :=
  ∀ (w : World) (E : List Ent) (over : Bool) (eA : Option Addr) (en ec : Nat) (f : Int) (A : Option Addr) (n c : Nat) (L : List Int), AllAt w0 kb ab E over eA en ec w → RdF (fun b => b = ab ∨ RowB eA b) w A n (iv L) → n ≤ 1000 →
    Calls Try.prog 29 #[.pointer (some ⟨ab, 0, none⟩), .string id, .int .i64 f, .slice A n c] w (DoPost w0 kb ab id E eA w)
theorem DoPost.none {w0 w w2 : World} {kb ab : Nat} {id : ByteArray} {E : List Ent} {eA : Option Addr} {en ec : Nat} (h : AllAt w0 kb ab E true eA en ec w2) (hc : Chg (fun b => b = ab ∨ RowB eA b) w w2) (er va : Int) : DoPost w0 kb ab id E eA w (.returned (.agg #[.int .i64 er, .int .i64 va])) w2 :=
  ⟨er, va, true, [], eA, en, ec, rfl, by rw [List.append_nil]; exact h, ⟨(fun x hx => nomatch hx), List.nodup_nil, (fun x hx => nomatch hx)⟩, (fun e => nomatch e), hc, (fun x hx => nomatch hx), fun b hb => .inl hb⟩
/-- The result is zero, nothing is laid. -/
theorem zero_back {w0 w wx : World} {kb ab : Nat} {id : ByteArray} {E : List Ent} {eA : Option Addr} {en ec : Nat} (h : AllAt w0 kb ab E true eA en ec wx) (hc : Chg (fun b => b = ab ∨ RowB eA b) w wx) (hb : w0.heap.size ≤ w.heap.size) (hab : ab < w.heap.size) (hE : ∀ x ∈ E, 0 < x.an → ∀ b, RowB x.aA b → b < w.heap.size) (hrow : ∀ b, RowB eA b → b < w.heap.size) {c0 c1 : Value} (hr : Blk wx w.heap.size 30 #[c0, c1]) (er va : Int) :
    DoPost w0 kb ab id E eA w (.returned (.agg #[.int .i64 er, .int .i64 va])) ((wx.setCell ⟨w.heap.size, 0, none⟩ (.int .i64 er)).setCell ⟨w.heap.size, 1, none⟩ (.int .i64 va)) ∧ Blk ((wx.setCell ⟨w.heap.size, 0, none⟩ (.int .i64 er)).setCell ⟨w.heap.size, 1, none⟩ (.int .i64 va)) w.heap.size 30 #[.int .i64 er, .int .i64 va] := by
  have h1 : Chg (fun b => b = w.heap.size) wx ((wx.setCell ⟨w.heap.size, 0, none⟩ (.int .i64 er)).setCell ⟨w.heap.size, 1, none⟩ (.int .i64 va)) := ((Chg.refl _ _).set1 _ _).set1 _ _
  have h2 := (hr.put 0 (.int .i64 er)).put 1 (.int .i64 va)
  simp only [List.setIfInBounds_toArray, List.set_cons_succ, List.set_cons_zero] at h2
  refine ⟨DoPost.none (h.chg h1 (fun b e => ⟨by have e : b = w.heap.size := e; omega, by have e : b = w.heap.size := e; omega, fun hb => by have := hrow b hb; have e : b = w.heap.size := e; omega⟩) (fun x hx h0 b hb e => by have := hE x hx h0 b hb; have e : b = w.heap.size := e; omega)) (hc.trans2 h1 (fun b e => .inr (Nat.le_of_eq e.symm))) er va, h2⟩
set_option maxRecDepth 100000 in
set_option maxHeartbeats 16000000 in
theorem do_step (w0 : World) (kb : Nat) (j : Jb) (dA : Option Addr) (dc : Nat) (R : List DRow) (hk : KnAt w0 kb j dA dc R) (ab : Nat) (id : ByteArray) (hv : vid id = true) (IH : ∀ id2 : ByteArray, vid id2 = true → id2.size = id.size + 1 → DoC w0 kb ab id2) : DoC w0 kb ab id := by
  intro w E over eA en ec f A n c L hA hr hn
  obtain ⟨w1, hw1⟩ : ∃ w1, w.alloc (.cells #[.int .i64 0, .int .i64 0] 30) = w1 := ⟨_, rfl⟩
  have hc1 : Chg Non w w1 := hw1 ▸ (Chg.refl _ _).alloc _
  have hb1 : Blk w1 w.heap.size 30 #[.int .i64 0, .int .i64 0] := hw1 ▸ Blk.new w _ _
  have hA1 := hA.non hc1
  have hk1 := hk.non hA1.kn
  have a0 : w1.cell? ⟨ab, 0, none⟩ = some (.pointer (some ⟨kb, 0, none⟩)) := hA1.box.cell 0
  have a1 : w1.cell? ⟨ab, 1, none⟩ = some (.slice eA en ec) := hA1.box.cell 1
  have a2 : w1.cell? ⟨ab, 2, none⟩ = some (.bool over) := hA1.box.cell 2
  have z2 := hA1.box.frozen 2
  have k4 : w1.cell? ⟨kb, 4, none⟩ = some (.int .i64 j.tasks) := hk1.blk.cell 4
  have al := hA1.box.lt
  have kl := hk1.blk.lt
  have rl := hb1.lt
  have r0 : w1.cell? ⟨w.heap.size, 0, none⟩ = some (.int .i64 0) := hb1.cell 0
  have r1 : w1.cell? ⟨w.heap.size, 1, none⟩ = some (.int .i64 0) := hb1.cell 1
  have y0 := hb1.frozen 0
  have y1 := hb1.frozen 1
  have HK := Lib.hid hk
  have HA := Lib.hid hA
  have HA1 := Lib.hid hA1
  have Hb1 := Lib.hid hb1
  have Hc1 := Lib.hid hc1
  have Hv := Lib.hid hv
  have Hr := Lib.hid hr
  have HI := Lib.hid IH
  clear hk hA hA1 hb1 hc1 hv hr IH hk1
  by_cases hlen : j.tasks ≤ (en : Int)
  · go_enter Try.func29, Try.ntmps29
    go_wp2_with fail
    go_quiet (fail)
    go_wp2_with fail
    have hd : Chg Non w1 (w1.drewN nq) := (Chg.refl _ _).drewN nq
    obtain ⟨h2, hc2⟩ := (HA1.out.non hd).setOver true
    have hr2 := (Hb1.out.non hd).chg hc2 (fun e => by have := HA.out.box.lt; omega)
    obtain ⟨hp, hb⟩ := zero_back (w := w) (id := id) h2 ((Hc1.out.non hd).of_non.trans2 hc2 (fun b e => .inl (.inl e))) HA.out.kn.size HA.out.box.lt (fun x hx h0 b hb => ((HA.out.ok x hx).2 h0 b hb).1) (fun b hb => (HA.out.own.lt (rowB_own hb)).2) hr2 0 0
    have t0 := hb.cell 0
    have t1 := hb.cell 1
    exact bodyPost_ret (v := .agg #[.int .i64 0, .int .i64 0]) (by simp [results, Try.results29, go_sem, t0, t1]) rfl hp
  have hlt : (en : Int) < j.tasks := by omega
  clear hlen
  cases over with
  | true =>
    go_enter Try.func29, Try.ntmps29
    go_wp2_with fail
    go_quiet (fail)
    go_wp2_with fail
    have hd : Chg Non w1 (w1.drewN nq) := (Chg.refl _ _).drewN nq
    have h2 := HA1.out.non hd
    have hr2 := Hb1.out.non hd
    obtain ⟨hp, hb⟩ := zero_back (w := w) (id := id) h2 (Hc1.out.non hd).of_non HA.out.kn.size HA.out.box.lt (fun x hx h0 b hb => ((HA.out.ok x hx).2 h0 b hb).1) (fun b hb => (HA.out.own.lt (rowB_own hb)).2) hr2 0 0
    have t0 := hb.cell 0
    have t1 := hb.cell 1
    exact bodyPost_ret (v := .agg #[.int .i64 0, .int .i64 0]) (by simp [results, Try.results29, go_sem, t0, t1]) rfl hp
  | false =>
  have Hlt := Lib.hid hlt
  have ht5 : j.tasks ≤ 500 := HK.out.ok.tasks.2
  clear y0 y1 r0 r1
  go_enter Try.func29, Try.ntmps29
  go_wp2_with fail
  go_quiet (fail)
  obtain ⟨w2, hw2⟩ : ∃ w2, w1.drewN nq = w2 := ⟨_, rfl⟩
  rw [hw2]
  have hd2 : Chg Non w1 w2 := hw2 ▸ (Chg.refl _ _).drewN nq
  have hA2 := HA1.out.non hd2
  have b1 : w2.cell? ⟨ab, 1, none⟩ = some (.slice eA en ec) := hA2.box.cell 1
  have b2 : w2.cell? ⟨ab, 2, none⟩ = some (.bool false) := hA2.box.cell 2
  have al2 := hA2.box.lt
  have HA2 := Lib.hid hA2
  have Hb2 := Lib.hid (Hb1.out.non hd2)
  have Hc2 := Lib.hid (Hc1.out.non hd2)
  have Hr2 := Lib.hid (Hr.out.non Hc2.out)
  clear hd2 hA2 hw2 a0 a1 a2 z2 k4 al kl rl
  go_wp2_with fail
  have hap : ¬ RowB eA ab := fun h => HA2.out.own.apart HA2.out.box (by decide) (rowB_own h)
  have g1 : ∀ wx, Chg (RowB eA) w2 wx → wx.cell? ⟨ab, 1, none⟩ = some (.slice eA en ec) := fun wx h => (HA2.out.box.chg h hap).cell 1
  have gl : ∀ wx, Chg (RowB eA) w2 wx → ab < wx.heap.size := fun wx h => (HA2.out.box.chg h hap).lt
  have Hap := Lib.hid hap
  have hen : en < 500 := by have := Hlt.out; omega
  clear hap b1 b2 al2
  refine y_region_tail 12 12 (RowB eA) [8, 11] [10] (fun i vs v w5 => if i = 8 then OwnR rkE w5 w0.heap.size (.slice eA en ec) en (evs E) else ∃ gA gc, vs = [.slice gA n gc] ∧ OwnR rkE w5 w0.heap.size v (en + 1) (evs E ++ entC ⟨id, f, gA, n, gc, 0, 0, 0, 0, none, 0, 0, []⟩) ∧ (∀ b, v.ownBlock = some b → RowB eA b ∨ w2.heap.size ≤ b)) (fun _ _ _ _ => True) (fun i vs v => if i = 8 then ∃ gA gc, v = .slice gA n gc else ∃ A2 c2, v = .slice A2 (en + 1) c2) (fun wx => OwnR rkE wx w0.heap.size (.slice eA en ec) en (evs E) ∧ Rds wx 1 A n (iv L)) (by kernel_rfl) (by kernel_rfl) (by kernel_rfl) (fun b hb => (HA2.out.own.lt (rowB_own hb)).2) ⟨HA2.out.own, Hr2.out.1⟩ (fun _ ob h => ⟨h.1.alloc ob, h.2.non ((Chg.refl _ _).alloc ob)⟩) ?_
  repeat (first | (refine y_plain (RowB eA) (w2) rfl rfl (f := ?_) (a2 := ?_) (k2 := ?_) (wanted_none rfl) rfl rfl (fun w hC hG => ?_) ?_ ?_ ?_ rfl; rotate_left 3; (clear hG; first | (go_simp; done) | (go_simp; with_reducible rfl) | (simp [*, go_sem, ↓IntWalk.iteOmega]; done) | (simp [*, go_sem, ↓IntWalk.iteOmega]; with_reducible rfl)); (simp only [Act.put, List.setIfInBounds_toArray, List.set_cons_succ, List.set_cons_zero]; with_reducible exact rfl); ((conv => lhs; simp only [Nat.reduceAdd]); try with_reducible exact rfl)) | (refine y_pass (a2 := ?_) (k2 := ?_) (wanted_no rfl rfl rfl rfl) ?_ ?_ ?_ rfl; rotate_left 2; (simp only [Act.put, List.setIfInBounds_toArray, List.set_cons_succ, List.set_cons_zero]; with_reducible exact rfl); ((conv => lhs; simp only [Nat.reduceAdd]); try with_reducible exact rfl)) | (refine y_plain (RowB eA) (w2) rfl rfl (f := ?_) (a2 := ?_) (k2 := ?_) (wanted_yes rfl rfl rfl) rfl rfl (fun w hC hG => ?_) ?_ ?_ ?_ rfl; rotate_left 3; (clear hG; first | (go_simp; done) | (go_simp; with_reducible rfl) | (simp [*, go_sem, ↓IntWalk.iteOmega]; done) | (simp [*, go_sem, ↓IntWalk.iteOmega]; with_reducible rfl)); (simp only [Act.put, List.setIfInBounds_toArray, List.set_cons_succ, List.set_cons_zero]; with_reducible exact rfl); ((conv => lhs; simp only [Nat.reduceAdd]); try with_reducible exact rfl)))
  refine y_major (RowB eA) (w2) rfl rfl (a2 := ?_) (k2 := ?_) (wanted_none rfl) rfl (⟨_, none, 0, rfl⟩) (fun _ _ _ _ _ _ => trivial) (fun v w ob h => OwnR.alloc (K := rkE) h ob) (fun w hC hG hS => ?_) (fun v => ?_) ?_ (fun v hv => ?_) rfl
  rotate_left 3
  (simp only [Act.put, List.setIfInBounds_toArray, List.set_cons_succ, List.set_cons_zero]; with_reducible exact rfl)
  ((conv => lhs; simp only [Nat.reduceAdd]); try with_reducible exact rfl)
  rotate_left
  · refine settle_appR (K := rkN) (base := w.heap.size) (v := .slice none 0 0) (n := 0) (xs := []) _ (.tmp 52) rfl (OwnR.nil _ _ _) rfl hS.2 rfl (iv_one L) (by omega) (Nat.le_refl _) ?_
    intro v2 w3 h2 h3 h4
    obtain ⟨A4, c4, rfl, _⟩ := h2.open_
    rw [Nat.zero_add] at h2 ⊢
    have h3n : Chg Non w w3 := h3.mono (fun b e => by cases e)
    exact ⟨⟨A4, c4, rfl⟩, h3n.of_non, hS.1.non h3n, trivial⟩
  obtain ⟨gA, gc, rfl⟩ : ∃ gA gc, v = .slice gA n gc := hv
  repeat (first | (refine y_plain (RowB eA) (w2) rfl rfl (f := ?_) (a2 := ?_) (k2 := ?_) (wanted_none rfl) rfl rfl (fun w hC hG => ?_) ?_ ?_ ?_ rfl; rotate_left 3; (clear hG; first | (go_simp; done) | (go_simp; with_reducible rfl) | (simp [*, go_sem, ↓IntWalk.iteOmega]; done) | (simp [*, go_sem, ↓IntWalk.iteOmega]; with_reducible rfl)); (simp only [Act.put, List.setIfInBounds_toArray, List.set_cons_succ, List.set_cons_zero]; with_reducible exact rfl); ((conv => lhs; simp only [Nat.reduceAdd]); try with_reducible exact rfl)) | (refine y_pass (a2 := ?_) (k2 := ?_) (wanted_no rfl rfl rfl rfl) ?_ ?_ ?_ rfl; rotate_left 2; (simp only [Act.put, List.setIfInBounds_toArray, List.set_cons_succ, List.set_cons_zero]; with_reducible exact rfl); ((conv => lhs; simp only [Nat.reduceAdd]); try with_reducible exact rfl)) | (refine y_plain (RowB eA) (w2) rfl rfl (f := ?_) (a2 := ?_) (k2 := ?_) (wanted_yes rfl rfl rfl) rfl rfl (fun w hC hG => ?_) ?_ ?_ ?_ rfl; rotate_left 3; (clear hG; first | (go_simp; done) | (go_simp; with_reducible rfl) | (simp [*, go_sem, ↓IntWalk.iteOmega]; done) | (simp [*, go_sem, ↓IntWalk.iteOmega]; with_reducible rfl)); (simp only [Act.put, List.setIfInBounds_toArray, List.set_cons_succ, List.set_cons_zero]; with_reducible exact rfl); ((conv => lhs; simp only [Nat.reduceAdd]); try with_reducible exact rfl)))
  refine y_minor (RowB eA) (w2) rfl rfl (ob := .cells #[.string id, .int .i64 f, .slice gA n gc, .int .i64 0, .int .i64 0, .int .i64 0, .int .i64 0, .slice none 0 0] 32) (kd := some (1, 1)) (a2 := ?_) (k2 := ?_) (wanted_none rfl) rfl rfl (fun w hC hG => ?_) (fun g => ?_) ?_ (fun g => ?_) rfl
  rotate_left 2
  · clear hG; first | (go_simp; done) | (go_simp; rfl)
  (simp only [Act.put, mkv, List.setIfInBounds_toArray, List.set_cons_succ, List.set_cons_zero]; with_reducible exact rfl)
  ((conv => lhs; simp only [Nat.reduceAdd]); try with_reducible exact rfl)
  refine y_major (RowB eA) (w2) rfl rfl (a2 := ?_) (k2 := ?_) (wanted_none rfl) rfl (⟨_, none, 0, rfl⟩) (fun _ _ _ _ _ _ => trivial) (fun v w ob h => by obtain ⟨gA, gc, h1, h2, h3⟩ := h; exact ⟨gA, gc, h1, h2.alloc ob, h3⟩) (fun w hC hG hS => ?_) (fun v => ?_) ?_ (fun v hv => ?_) rfl
  rotate_left 3
  (simp only [Act.put, List.setIfInBounds_toArray, List.set_cons_succ, List.set_cons_zero]; with_reducible exact rfl)
  ((conv => lhs; simp only [Nat.reduceAdd]); try with_reducible exact rfl)
  rotate_left
  · have hB := Rds.blockN (m := 1) (size := 8) (show Blk w g 32 #[.string id, .int .i64 f, .slice gA n gc, .int .i64 0, .int .i64 0, .int .i64 0, .int .i64 0, .slice none 0 0] from (hG 10 rfl).2) rfl
    refine settle_appR (K := rkE) (.tmp 49) (.tmp 55) rfl (show OwnR rkE w w0.heap.size (.slice eA en ec) en (evs E) from hS) rfl hB rfl (entC_one ⟨id, f, gA, n, gc, 0, 0, 0, 0, none, 0, 0, []⟩) (by omega) ?_ ?_
    · have := HA2.out.kn.size
      have := hC.size
      omega
    intro v2 w3 h2 h3 h4
    obtain ⟨A4, c4, rfl, _⟩ := h2.open_
    refine ⟨⟨A4, c4, rfl⟩, h3.mono (fun b e => own_rowB e), ⟨gA, gc, rfl, h2, fun b hb => ?_⟩, trivial⟩
    rcases h4 with h5 | h5
    · exact .inl (own_rowB (h5 ▸ hb))
    · rw [h5] at hb
      have := Option.some.inj hb
      have := hC.size
      exact .inr (by omega)
  obtain ⟨A2, c2, rfl⟩ : ∃ A2 c2, v = .slice A2 (en + 1) c2 := hv
  refine y_tail (RowB eA) w2 rfl rfl rfl (fun w3 hC3 hS3 _ => ?_)
  simp only [List.drop_succ_cons, List.drop_zero]
  obtain ⟨gA2, gc2, hvs, ho3, hv3⟩ : ∃ gA2 gc2, [Value.slice gA n gc] = [.slice gA2 n gc2] ∧ OwnR rkE w3 w0.heap.size (.slice A2 (en + 1) c2) (en + 1) (evs E ++ entC ⟨id, f, gA2, n, gc2, 0, 0, 0, 0, none, 0, 0, []⟩) ∧ (∀ b, (Value.slice A2 (en + 1) c2).ownBlock = some b → RowB eA b ∨ w2.heap.size ≤ b) := hS3
  obtain ⟨rfl, rfl⟩ : gA = gA2 ∧ gc = gc2 := by
    injection hvs with h1
    injection h1 with h1 h2 h3
    exact ⟨h1, h3⟩
  obtain ⟨hA4, hC4, hR4⟩ := HA2.out.push (x := ⟨id, f, gA, n, gc, 0, 0, 0, 0, none, 0, 0, []⟩) ⟨⟨rfl, fun h => absurd h (Nat.lt_irrefl 0)⟩, Nat.zero_le _, by have := vid_small Hv.out; show id.size ≤ maxLen; unfold maxLen; omega, fun k hk => nomatch hk⟩ rfl ho3 (hC3.mono (fun b e => rowB_own e)) (fun b hb => (hv3 b hb).imp rowB_own (fun e => e))
  have hb3 := HA2.out.box.chg hC3 Hap.out
  have al3 := hb3.lt
  have f3 := hb3.frozen 1
  have c3 : w3.cell? ⟨ab, 1, none⟩ = some (.slice eA en ec) := hb3.cell 1
  obtain ⟨w4, hw4⟩ : ∃ w4, w3.setCell ⟨ab, 1, none⟩ (.slice A2 (en + 1) c2) = w4 := ⟨_, rfl⟩
  rw [hw4] at hA4 hC4
  have hr4 := (Hr2.out.step hC4 (M2 := fun b => b = ab ∨ RowB eA b) (fun b e => .inl e)).1
  have a0 : w4.cell? ⟨ab, 0, none⟩ = some (.pointer (some ⟨kb, 0, none⟩)) := hA4.box.cell 0
  have al4 := hA4.box.lt
  have hbg := refBegin_any w4 kb j dA dc R (HK.out.non hA4.kn) f A n c L hr4 hn
  have hal := HA.out.box.lt
  have hrb4 : BlkF (fun b => b = ab ∨ RowB eA b) w4 w.heap.size 30 #[.int .i64 0, .int .i64 0] := by
    have hno : ¬ (w.heap.size = ab ∨ RowB eA w.heap.size) := fun e => by
      rcases e with e | e
      · omega
      · have := (HA.out.own.lt (rowB_own e)).2
        omega
    exact ⟨Hb2.out.chg hC4 hno, hno⟩
  have HBg := Lib.hid hbg
  have HA4 := Lib.hid hA4
  have HC4 := Lib.hid (Hc2.out.of_non.trans hC4)
  have HR4 := Lib.hid hR4
  have Hrb4 := Lib.hid hrb4
  have Hal := Lib.hid hal
  clear hA4 hC4 hR4 hr4 hbg hal hrb4 hC3 ho3 hv3 hb3 hvs g1 gl
  go_wp2_with fail
  refine HBg.out.mono ?_
  rintro e w5 ⟨s, x, rfl, hst, hk0, hwt, hu0, hfs, hfl, hc5⟩
  have hA5 := HA4.out.non hc5
  have Hst := Lib.hid hst
  have Hk0 := Lib.hid hk0
  have Hwt := Lib.hid hwt
  have Hu0 := Lib.hid hu0
  have Hfs := Lib.hid hfs
  have Hfl := Lib.hid hfl
  have Hc5 := Lib.hid hc5
  have HA5 := Lib.hid hA5
  clear hst hk0 hwt hu0 hfs hfl hc5 hA5 a0 al4 al3 f3 c3 hw4
  unfold stC
  go_wp2_with fail
  obtain ⟨w6, hw6⟩ : ∃ w6, w5.alloc (.cells #[.int .i64 s.f, .int .i64 s.p, .int .i64 s.u, .slice s.sA s.sn s.sc, .slice s.lA s.ln s.lc, .int .i64 s.k, .bool s.wt] 95) = w6 := ⟨_, rfl⟩
  rw [hw6]
  obtain ⟨sb, hsb⟩ : ∃ sb, w5.heap.size = sb := ⟨_, rfl⟩
  rw [hsb]
  have hR0 : HdR w0 kb ab w id E eA sb j.fuel (j.fuel - 0).toNat (.slice none 0 0) w6 := by
    have hc6 : Chg Non w5 w6 := hw6 ▸ (Chg.refl _ _).alloc _
    have hs6 : Blk w6 sb 95 (stC s) := hsb ▸ hw6 ▸ Blk.new w5 _ _
    have z1 := Hc2.out.size
    have z4 := Hb2.out.lt
    have z5 := HC4.out.size
    have z6 := Hc5.out.size
    have zr := Hrb4.out.1.lt
    have hA6 := HA5.out.non hc6
    have hal := Hal.out
    have hal4 := HA4.out.box.lt
    have hM : ∀ b, Mine ab sb A2 none none b → (b = ab ∨ RowB A2 b) ∨ w5.heap.size ≤ b := fun b hb => by
      rcases hb with e | e | e | ⟨_, e, _⟩ | ⟨_, e, _⟩
      · exact .inl (.inl e)
      · exact .inr (by omega)
      · exact .inl (.inr e)
      · cases e
      · cases e
    have hlow : ∀ b, (b = ab ∨ RowB A2 b) → b < w4.heap.size := fun b hb => by
      rcases hb with e | e
      · omega
      · exact (HA4.out.own.lt (rowB_own e)).2
    have hS := LpS.start (w := w) (id := id) (eA0 := eA) (sb := sb) hA6 rfl rfl rfl rfl rfl hs6 (by omega) hal HA.out.kn.size (fun x hx h0 b hb => ((HA.out.ok x hx).2 h0 b hb).1) ((HC4.out.non Hc5.out).non hc6) (fun b hb => (HR4.out b hb).imp (fun e => e) (fun e => by omega))
    refine ⟨_, [], false, A2, en + 1, c2, none, 0, 0, [], s, rfl, hS, ?_, (RdF.new Hst.out.rs Hfs.out hlow).step hc6.of_non hM, (RdF.new Hst.out.rl Hfl.out hlow).step hc6.of_non hM, Hst.out.sn, Hst.out.ln, Hwt.out, Hk0.out, Nat.zero_le _, ?_, ?_, ?_⟩
    · refine ⟨(Hrb4.out.1.non Hc5.out).non hc6, fun e => ?_⟩
      rcases hM _ e with e | e
      · rcases e with e | e
        · omega
        · rcases HR4.out _ e with e2 | e2
          · exact Hrb4.out.2 (.inr e2)
          · omega
      · omega
    · rw [Hu0.out]
      exact Int.le_refl 0
    · rw [Hu0.out]
      have := HK.out.ok.fuel.1
      omega
    · rw [Hu0.out]
  have HR0 := Lib.hid hR0
  have Hsb : Hid (w.heap.size < sb) := by
    show _ < _
    have z1 := Hc2.out.size
    have z4 := Hb2.out.lt
    have z5 := HC4.out.size
    have z6 := Hc5.out.size
    have zr := Hrb4.out.1.lt
    omega
  have Hen : Hid (en = E.length) := HA.out.len
  clear hR0 hw6 hsb hlt
  go_loopw [12] (fun v wr => ∃ m, HdR w0 kb ab w id E eA sb j.fuel m v wr) (fun v wr => leastN (fun m => HdR w0 kb ab w id E eA sb j.fuel m v wr))
  case atStart => exact ⟨_, HR0.out⟩
  case round =>
    clear HR0
    have hsp := leastN_spec hrel
    obtain ⟨m, hm⟩ : ∃ m, leastN (fun m => HdR w0 kb ab w id E eA sb j.fuel m u12 wr) = m := ⟨_, rfl⟩
    rw [hm] at hsp
    have Hm := Lib.hid hm
    clear hrel hm
    obtain ⟨x0, N, over3, eA3, en3, ec3, kA, kn, kc, kr, s1, rfl, hL, hrb, hrS, hrL, hsn, hln, hwt1, hsk, hk16, han, huf, hmm⟩ := hsp
    obtain ⟨gr, rfl⟩ := hL.form
    have a0 : wr.cell? ⟨ab, 0, none⟩ = some (.pointer (some ⟨kb, 0, none⟩)) := hL.all.box.cell 0
    have a2 : wr.cell? ⟨ab, 2, none⟩ = some (.bool over3) := hL.all.box.cell 2
    have al := hL.all.box.lt
    have HL := Lib.hid hL
    have Hrb := Lib.hid hrb
    have Hsb3 := Lib.hid hL.sbx
    have HrS := Lib.hid hrS
    have HrL := Lib.hid hrL
    have Hwt1 := Lib.hid hwt1
    have Hsk := Lib.hid hsk
    have Han := Lib.hid han
    have Huf := Lib.hid huf
    have Hmm := Lib.hid hmm
    clear hL hrb hrS hrL hwt1 hsk han huf hmm
    cases over3 with
    | true =>
      have rl := Hrb.out.1.lt
      have y0 := Hrb.out.1.frozen 0
      have y1 := Hrb.out.1.frozen 1
      have r0 : wr.cell? ⟨w.heap.size, 0, none⟩ = some (.int .i64 0) := Hrb.out.1.cell 0
      have r1 : wr.cell? ⟨w.heap.size, 1, none⟩ = some (.int .i64 0) := Hrb.out.1.cell 1
      obtain ⟨hp, hb⟩ := HL.out.ret Hrb.out 0 0
      have t0 := hb.cell 0
      have t1 := hb.cell 1
      have Hp := Lib.hid hp
      clear hp hb
      go_wp2_with fail
      exact bodyPost_ret (v := .agg #[.int .i64 0, .int .i64 0]) (by simp [results, Try.results29, go_sem, t0, t1]) rfl Hp.out
    | false =>
      go_wp2_with fail
      have xs : ∀ wx, Chg Non wr wx → Blk wx sb 95 #[.int .i64 s1.f, .int .i64 s1.p, .int .i64 s1.u, .slice s1.sA s1.sn s1.sc, .slice s1.lA s1.ln s1.lc, .int .i64 s1.k, .bool s1.wt] := fun wx h => Hsb3.out.non h
      have g0 : ∀ wx, Chg Non wr wx → wx.cell? ⟨sb, 0, none⟩ = some (.int .i64 s1.f) := fun wx h => (xs wx h).cell 0
      have g1 : ∀ wx, Chg Non wr wx → wx.cell? ⟨sb, 1, none⟩ = some (.int .i64 s1.p) := fun wx h => (xs wx h).cell 1
      have g2 : ∀ wx, Chg Non wr wx → wx.cell? ⟨sb, 2, none⟩ = some (.int .i64 s1.u) := fun wx h => (xs wx h).cell 2
      have g3 : ∀ wx, Chg Non wr wx → wx.cell? ⟨sb, 3, none⟩ = some (.slice s1.sA s1.sn s1.sc) := fun wx h => (xs wx h).cell 3
      have g4 : ∀ wx, Chg Non wr wx → wx.cell? ⟨sb, 4, none⟩ = some (.slice s1.lA s1.ln s1.lc) := fun wx h => (xs wx h).cell 4
      have g5 : ∀ wx, Chg Non wr wx → wx.cell? ⟨sb, 5, none⟩ = some (.int .i64 s1.k) := fun wx h => (xs wx h).cell 5
      have g6 : ∀ wx, Chg Non wr wx → wx.cell? ⟨sb, 6, none⟩ = some (.bool s1.wt) := fun wx h => (xs wx h).cell 6
      have ga : ∀ wx, Chg Non wr wx → wx.cell? ⟨ab, 0, none⟩ = some (.pointer (some ⟨kb, 0, none⟩)) := fun wx h => (HL.out.all.box.non h).cell 0
      have gl : ∀ wx, Chg Non wr wx → ab < wx.heap.size := fun wx h => (HL.out.all.box.non h).lt
      have gs : ∀ wx, Chg Non wr wx → sb < wx.heap.size := fun wx h => (xs wx h).lt
      clear xs a0 a2 al
      refine y_region_last 12 13 10 Non [7] [11, 12] (fun _ _ _ _ => True) (fun _ _ v wx => RnK wr j id.size s1 v wx) (fun _ _ v => ∃ s2 ev, v = .tuple #[.agg (stC s2), .agg (evC ev)]) (fun _ => True) (by kernel_rfl) (by kernel_rfl) (by kernel_rfl) (by kernel_rfl) (by decide) rfl rfl rfl rfl rfl rfl rfl (fun _ h => h.elim) trivial (fun _ _ _ => trivial) ?_
      repeat (first | (refine y_plain (Non) (wr) rfl rfl (f := ?_) (a2 := ?_) (k2 := ?_) (wanted_none rfl) rfl rfl (fun w hC hG => ?_) ?_ ?_ ?_ rfl; rotate_left 3; (clear hG; first | (go_simp; done) | (go_simp; with_reducible rfl) | (simp [*, go_sem, ↓IntWalk.iteOmega]; done) | (simp [*, go_sem, ↓IntWalk.iteOmega]; with_reducible rfl)); (simp only [Act.put, List.setIfInBounds_toArray, List.set_cons_succ, List.set_cons_zero]; with_reducible exact rfl); ((conv => lhs; simp only [Nat.reduceAdd]); try with_reducible exact rfl)) | (refine y_pass (a2 := ?_) (k2 := ?_) (wanted_no rfl rfl rfl rfl) ?_ ?_ ?_ rfl; rotate_left 2; (simp only [Act.put, List.setIfInBounds_toArray, List.set_cons_succ, List.set_cons_zero]; with_reducible exact rfl); ((conv => lhs; simp only [Nat.reduceAdd]); try with_reducible exact rfl)) | (refine y_plain (Non) (wr) rfl rfl (f := ?_) (a2 := ?_) (k2 := ?_) (wanted_yes rfl rfl rfl) rfl rfl (fun w hC hG => ?_) ?_ ?_ ?_ rfl; rotate_left 3; (clear hG; first | (go_simp; done) | (go_simp; with_reducible rfl) | (simp [*, go_sem, ↓IntWalk.iteOmega]; done) | (simp [*, go_sem, ↓IntWalk.iteOmega]; with_reducible rfl)); (simp only [Act.put, List.setIfInBounds_toArray, List.set_cons_succ, List.set_cons_zero]; with_reducible exact rfl); ((conv => lhs; simp only [Nat.reduceAdd]); try with_reducible exact rfl)))
      refine y_major (Non) (wr) rfl rfl (a2 := ?_) (k2 := ?_) (wanted_none rfl) rfl (⟨_, st0, ev0, rfl⟩) (fun v w1 w2 _ hc h => h.non hc) (fun _ _ _ _ => trivial) (fun w hC hG hS => ?_) (fun v => ?_) ?_ (fun v hv => ?_) rfl
      rotate_left 3
      (simp only [Act.put, List.setIfInBounds_toArray, List.set_cons_succ, List.set_cons_zero]; with_reducible exact rfl)
      ((conv => lhs; simp only [Nat.reduceAdd]); try with_reducible exact rfl)
      rotate_left
      · have hLw := HL.out.non hC
        refine settle_of (r2 := .ok (.enter 48 #[.pointer (some ⟨kb, 0, none⟩), .agg (stC s1), .int .i64 id.size, .int .i64 6000]) w) ?_ (settle_enter ((refRun_any w kb j dA dc R (HK.out.non hLw.all.kn) s1 ⟨HrS.out.1.non hC, HrL.out.1.non hC, hsn, hln⟩ Hwt1.out id.size).mono ?_))
        · (first | (go_simp; done) | (go_simp; rfl))
        · rintro e w9 ⟨s2, ev, rfl, q1, q2, q3, q4, q5⟩
          exact ⟨_, rfl, ⟨s2, ev, rfl⟩, q2, trivial, ⟨s2, ev, rfl, q1, fun b hb => Nat.le_trans hC.size (q3 b hb), fun b hb => Nat.le_trans hC.size (q4 b hb), q5.step hC.size (Chg.refl _ _)⟩⟩
      obtain ⟨s2a, eva, rfl⟩ := hv
      repeat (first | (refine y_plain (Non) (wr) rfl rfl (f := ?_) (a2 := ?_) (k2 := ?_) (wanted_none rfl) rfl rfl (fun w hC hG => ?_) ?_ ?_ ?_ rfl; rotate_left 3; (clear hG; first | (go_simp; done) | (go_simp; with_reducible rfl) | (simp [*, go_sem, ↓IntWalk.iteOmega]; done) | (simp [*, go_sem, ↓IntWalk.iteOmega]; with_reducible rfl)); (simp only [Act.put, List.setIfInBounds_toArray, List.set_cons_succ, List.set_cons_zero]; with_reducible exact rfl); ((conv => lhs; simp only [Nat.reduceAdd]); try with_reducible exact rfl)) | (refine y_pass (a2 := ?_) (k2 := ?_) (wanted_no rfl rfl rfl rfl) ?_ ?_ ?_ rfl; rotate_left 2; (simp only [Act.put, List.setIfInBounds_toArray, List.set_cons_succ, List.set_cons_zero]; with_reducible exact rfl); ((conv => lhs; simp only [Nat.reduceAdd]); try with_reducible exact rfl)) | (refine y_plain (Non) (wr) rfl rfl (f := ?_) (a2 := ?_) (k2 := ?_) (wanted_yes rfl rfl rfl) rfl rfl (fun w hC hG => ?_) ?_ ?_ ?_ rfl; rotate_left 3; (clear hG; first | (go_simp; done) | (go_simp; with_reducible rfl) | (simp [*, go_sem, ↓IntWalk.iteOmega]; done) | (simp [*, go_sem, ↓IntWalk.iteOmega]; with_reducible rfl)); (simp only [Act.put, List.setIfInBounds_toArray, List.set_cons_succ, List.set_cons_zero]; with_reducible exact rfl); ((conv => lhs; simp only [Nat.reduceAdd]); try with_reducible exact rfl)))
      refine y_minor (Non) (wr) rfl rfl (ob := .cells #[.int .i64 0, .int .i64 0, .int .i64 0, .slice none 0 0, .slice none 0 0, .int .i64 0, .bool false] 95) (kd := none) (a2 := ?_) (k2 := ?_) (wanted_none rfl) rfl rfl (fun w hC hG => ?_) (fun g => ?_) ?_ (fun g => ?_) rfl
      rotate_left 2
      · clear hG; first | (go_simp; done) | (go_simp; rfl)
      (simp only [Act.put, mkv, List.setIfInBounds_toArray, List.set_cons_succ, List.set_cons_zero]; with_reducible exact rfl)
      ((conv => lhs; simp only [Nat.reduceAdd]); try with_reducible exact rfl)
      obtain ⟨gt, hgt⟩ : ∃ gt, gt = g := ⟨_, rfl⟩
      subst hgt
      refine y_minor (Non) (wr) rfl rfl (ob := .cells #[.int .i64 0, .int .i64 0, .int .i64 0, .int .i64 0, .slice none 0 0, .int .i64 0, .int .i64 0] 100) (kd := none) (a2 := ?_) (k2 := ?_) (wanted_none rfl) rfl rfl (fun w hC hG => ?_) (fun g => ?_) ?_ (fun g => ?_) rfl
      rotate_left 2
      · clear hG; first | (go_simp; done) | (go_simp; rfl)
      (simp only [Act.put, mkv, List.setIfInBounds_toArray, List.set_cons_succ, List.set_cons_zero]; with_reducible exact rfl)
      ((conv => lhs; simp only [Nat.reduceAdd]); try with_reducible exact rfl)
      obtain ⟨ge, hge⟩ : ∃ ge, ge = g := ⟨_, rfl⟩
      subst hge
      refine y_tail Non wr rfl rfl rfl (fun w7 hC7 _ hG => ?_)
      have hk7 : RnK wr j id.size s1 (.tuple #[.agg (stC s2a), .agg (evC eva)]) w7 := hG 7
      have ht7 : Blk w7 gt 95 (stC st0) := (hG 11).2
      have htl : wr.heap.size ≤ gt := (hG 11).1
      have he7 : Blk w7 ge 100 (evC ev0) := (hG 12).2
      have hel : wr.heap.size ≤ ge := (hG 12).1
      have hte : gt ≠ ge := ht7.apart he7 (by decide)
      clear hG g0 g1 g2 g3 g4 g5 g6 ga gl gs
      refine last_store (.tmp 13) (.tmp 83) rfl (cs := stC s2a) rfl rfl ht7 rfl (by kernel_rfl) (by simp [Value.oneCell', stC]) ?_
      intro w8 ht8 hS8
      have he8 := he7.chg hS8 (fun e => hte e.symm)
      simp only [List.drop_succ_cons, List.drop_zero]
      refine wpList_store_all rfl (.tmp 14) (.tmp 84) rfl (cs := evC eva) rfl rfl he8 rfl (by kernel_rfl) (by simp [Value.oneCell', evC]) ?_
      intro w9 he9 hS9
      have ht9 := ht8.chg hS9 (fun e => hte e)
      have hN9 : Chg Non wr w9 := (hC7.trans2 hS8 (fun b e => .inr (by have e : b = gt := e; omega))).trans2 hS9 (fun b e => .inr (by have e : b = ge := e; omega))
      obtain ⟨s2, ev, hv, hst7, hfs, hfl, hok7⟩ := hk7
      obtain ⟨hv1, hv2⟩ : stC s2a = stC s2 ∧ evC eva = evC ev := by
        injection hv with hv
        injection hv with hv
        injection hv with h1 h2
        injection h1 with h1
        injection h2 with h2
        injection h2 with h2
        exact ⟨h1, h2⟩
      rw [hv1] at ht9
      rw [hv2] at he9
      have hst9 : StW w9 s2 := (hst7.chg hS8 (fun b hb e => hst7.ws.apart ht7 (by decide) (by rw [← show b = gt from e]; exact rowB_own hb)) (fun b hb e => hst7.wl.apart ht7 (by decide) (by rw [← show b = gt from e]; exact rowB_own hb))).chg hS9 (fun b hb e => hst7.ws.apart he7 (by decide) (by rw [← show b = ge from e]; exact rowB_own hb)) (fun b hb e => hst7.wl.apart he7 (by decide) (by rw [← show b = ge from e]; exact rowB_own hb))
      have hok9 : ev.kind = 3 ∨ (ev.kind = 1 ∧ s2.k = s1.k + 1 ∧ ev.kid = s1.k ∧ 0 ≤ s1.k ∧ s1.k < 16 ∧ id.size < 12 ∧ s2.wt = false ∧ s1.u < s2.u ∧ s2.u ≤ j.fuel ∧ RdF (Mine ab sb (some ⟨gr, 0, none⟩) x0.aA kA) w9 ev.A ev.n (iv ev.L) ∧ ev.n ≤ 1000) ∨ (ev.kind = 2 ∧ 0 ≤ ev.kid ∧ ev.kid < s1.k ∧ s2.k = s1.k ∧ s2.wt = true ∧ s1.u < s2.u ∧ s2.u ≤ j.fuel) := by
        rcases hok7 with h | ⟨a1, a2, a3, a4, a5, a6, a7, a8, a9, a10, a11, a12⟩ | h
        · exact .inl h
        · refine .inr (.inl ⟨a1, a2, a3, a4, a5, by omega, a7, a8, a9, RdF.new (w := wr) ?_ a12 HL.out.low, a11⟩)
          exact ((a10.chg hS8 (fun b hb e => a10.apart ht7 (by decide) (by rw [← show b = gt from e]; exact hb))).chg hS9 (fun b hb e => a10.apart he7 (by decide) (by rw [← show b = ge from e]; exact hb))).rds
        · exact .inr (.inr h)
      have hL9 := HL.out.non hN9
      have hs9 := Hsb3.out.non hN9
      unfold stC at hs9
      have hlow := HL.out.low
      obtain ⟨x0', x1', x2', x3', x4', x5', x6'⟩ := cell7 hs9
      obtain ⟨z0, z1, z2, z3, z4, z5, z6⟩ : w9.frozen? ⟨sb, 0, none⟩ = false ∧ w9.frozen? ⟨sb, 1, none⟩ = false ∧ w9.frozen? ⟨sb, 2, none⟩ = false ∧ w9.frozen? ⟨sb, 3, none⟩ = false ∧ w9.frozen? ⟨sb, 4, none⟩ = false ∧ w9.frozen? ⟨sb, 5, none⟩ = false ∧ w9.frozen? ⟨sb, 6, none⟩ = false := ⟨hs9.frozen 0, hs9.frozen 1, hs9.frozen 2, hs9.frozen 3, hs9.frozen 4, hs9.frozen 5, hs9.frozen 6⟩
      obtain ⟨t0, t1, t2, t3, t4, t5, t6⟩ := cell7 (show Blk w9 gt 95 #[.int .i64 s2.f, .int .i64 s2.p, .int .i64 s2.u, .slice s2.sA s2.sn s2.sc, .slice s2.lA s2.ln s2.lc, .int .i64 s2.k, .bool s2.wt] from ht9)
      have sl9 := hs9.lt
      have tl9 := ht9.lt
      obtain ⟨w10, hw10⟩ : ∃ w10, set7 w9 sb (.int .i64 s2.f) (.int .i64 s2.p) (.int .i64 s2.u) (.slice s2.sA s2.sn s2.sc) (.slice s2.lA s2.ln s2.lc) (.int .i64 s2.k) (.bool s2.wt) = w10 := ⟨_, rfl⟩
      have hS10 : Chg (fun b => b = sb) w9 w10 := hw10 ▸ set7_chg _ _ _ _ _ _ _ _ _
      have hb10 := set7_blk hs9 (.int .i64 s2.f) (.int .i64 s2.p) (.int .i64 s2.u) (.slice s2.sA s2.sn s2.sc) (.slice s2.lA s2.ln s2.lc) (.int .i64 s2.k) (.bool s2.wt)
      rw [hw10] at hb10
      obtain ⟨hL10, hC10⟩ := hL9.state hS10 hb10
      have htm : ¬ Mine ab sb (some ⟨gr, 0, none⟩) x0.aA kA gt := fun e => by have := hlow _ e; omega
      have hem : ¬ Mine ab sb (some ⟨gr, 0, none⟩) x0.aA kA ge := fun e => by have := hlow _ e; omega
      have HL10 := Lib.hid hL10
      have Ht10 := Lib.hid (show BlkF (Mine ab sb (some ⟨gr, 0, none⟩) x0.aA kA) w10 gt 95 (stC s2) from ⟨ht9.chg hS10 (fun e => htm (.inr (.inl e))), htm⟩)
      have He10 := Lib.hid (show BlkF (Mine ab sb (some ⟨gr, 0, none⟩) x0.aA kA) w10 ge 100 (evC ev) from ⟨he9.chg hS10 (fun e => hem (.inr (.inl e))), hem⟩)
      have Hrb10 := Lib.hid ((Hrb.out.non hN9).step hC10 (fun b e => .inl e))
      have HrS10 := Lib.hid ((RdF.new hst9.ws.rds hfs hlow).step hC10 (fun b e => .inl e))
      have HrL10 := Lib.hid ((RdF.new hst9.wl.rds hfl hlow).step hC10 (fun b e => .inl e))
      have Hsn2 := Lib.hid hst9.sn
      have Hln2 := Lib.hid hst9.ln
      have Hok9 := Lib.hid hok9
      have Hgtr : Hid (wr.heap.size ≤ gt) := htl
      have Hger : Hid (wr.heap.size ≤ ge) := hel
      have Hgtl : Hid (w.heap.size ≤ gt) := Nat.le_trans HL.out.chg.size htl
      have Hgel : Hid (w.heap.size ≤ ge) := Nat.le_trans HL.out.chg.size hel
      have Hrbr : Hid (w.heap.size < wr.heap.size) := Hrb.out.1.lt
      have HlowE : Hid (∀ x ∈ E ++ N, 0 < x.an → ∀ b, RowB x.aA b → b < wr.heap.size) := fun x hx h0 b hb => ((HL.out.all.ok x (mem_mid hx)).2 h0 b hb).1
      have HC10 := Lib.hid hC10
      have HN9 := Lib.hid hN9
      have Hw10 := Lib.hid hw10
      clear hv hv1 hv2 hst7 hfs hfl hok7 hst9 hok9 hL9 hs9 hlow hS10 hb10 hL10 hC10 htm hem hN9 hC7 hS8 hS9 ht7 ht8 ht9 he7 he8 he9 htl hel hte hw10 Hsb3 HrS HrL
      simp only [Act.put, List.setIfInBounds_toArray, List.set_cons_succ, List.set_cons_zero]
      go_wp2_with fail
      rw [set7_name, Hw10.out]
      have hi3 : en < en3 := by
        have h1 := HL10.out.all.len
        have h2 := Hen.out
        rw [List.length_append, List.length_cons] at h1
        omega
      have i1 : (0 : Int) ≤ (en : Int) := by omega
      have i2 : (en : Int) < en3 := by omega
      have Hat : Hid (E.length = en) := Hen.out.symm
      have hx5 := HL10.out.all.own.cellN entC_len at_get (j := 5) (u := .int .i64 x0.steps) rfl
      rw [Hat.out] at hx5
      have g1 : ∀ wx, Chg Non w10 wx → wx.cell? ⟨ab, 1, none⟩ = some (.slice (some ⟨gr, 0, none⟩) en3 ec3) := fun wx h => (HL10.out.all.box.non h).cell 1
      have gl : ∀ wx, Chg Non w10 wx → ab < wx.heap.size := fun wx h => (HL10.out.all.box.non h).lt
      have g5 : ∀ wx, Chg Non w10 wx → wx.cell? ⟨gr, en * 8 + 5, none⟩ = some (.int .i64 x0.steps) := fun wx h => h.cell hx5 _root_.id
      have g3 : ∀ wx, Chg Non w10 wx → wx.cell? ⟨ge, 3, none⟩ = some (.int .i64 ev.steps) := fun wx h => (He10.out.1.non h).cell 3
      clear hx5 x0' x1' x2' x3' x4' x5' x6' z0 z1 z2 z3 z4 z5 z6 t0 t1 t2 t3 t4 t5 t6 sl9 tl9
      refine y_region_tail 14 16 Non [] [] (fun _ _ _ _ => True) (fun _ _ _ _ => True) (fun _ _ _ => True) (fun _ => True) (by kernel_rfl) (by kernel_rfl) (by kernel_rfl) (fun _ h => h.elim) trivial (fun _ _ _ => trivial) ?_
      repeat (first | (refine y_plain (Non) (w10) rfl rfl (f := ?_) (a2 := ?_) (k2 := ?_) (wanted_none rfl) rfl rfl (fun w hC hG => ?_) ?_ ?_ ?_ rfl; rotate_left 3; (clear hG; first | (go_simp; done) | (go_simp; with_reducible rfl) | (simp [*, go_sem, ↓IntWalk.iteOmega]; done) | (simp [*, go_sem, ↓IntWalk.iteOmega]; with_reducible rfl)); (simp only [Act.put, List.setIfInBounds_toArray, List.set_cons_succ, List.set_cons_zero]; with_reducible exact rfl); ((conv => lhs; simp only [Nat.reduceAdd]); try with_reducible exact rfl)) | (refine y_pass (a2 := ?_) (k2 := ?_) (wanted_no rfl rfl rfl rfl) ?_ ?_ ?_ rfl; rotate_left 2; (simp only [Act.put, List.setIfInBounds_toArray, List.set_cons_succ, List.set_cons_zero]; with_reducible exact rfl); ((conv => lhs; simp only [Nat.reduceAdd]); try with_reducible exact rfl)) | (refine y_plain (Non) (w10) rfl rfl (f := ?_) (a2 := ?_) (k2 := ?_) (wanted_yes rfl rfl rfl) rfl rfl (fun w hC hG => ?_) ?_ ?_ ?_ rfl; rotate_left 3; (clear hG; first | (go_simp; done) | (go_simp; with_reducible rfl) | (simp [*, go_sem, ↓IntWalk.iteOmega]; done) | (simp [*, go_sem, ↓IntWalk.iteOmega]; with_reducible rfl)); (simp only [Act.put, List.setIfInBounds_toArray, List.set_cons_succ, List.set_cons_zero]; with_reducible exact rfl); ((conv => lhs; simp only [Nat.reduceAdd]); try with_reducible exact rfl)))
      refine y_tail Non w10 rfl rfl rfl (fun w11 hC11 _ _ => ?_)
      simp only [List.drop_succ_cons, List.drop_zero]
      have h5 := g5 w11 hC11
      have f5 := (HL10.out.non hC11).all.own.frozen (en * 8 + 5)
      obtain ⟨hL12, hC12⟩ := (HL10.out.non hC11).cell (y := { x0 with steps := IntKind.i64.wrap (x0.steps + ev.steps) }) (j := 5) (u := .int .i64 (IntKind.i64.wrap (x0.steps + ev.steps))) (by decide) rfl rfl rfl rfl rfl rfl
      rw [Hat.out] at hL12 hC12
      obtain ⟨x1, hx1⟩ : ∃ x1 : Ent, { x0 with steps := IntKind.i64.wrap (x0.steps + ev.steps) } = x1 := ⟨_, rfl⟩
      have hx1A : x1.aA = x0.aA := by rw [← hx1]
      have hx1n : x1.an = x0.an := by rw [← hx1]
      rw [hx1] at hL12
      have ht12 := (Ht10.out.non hC11).step hC12 (fun b e => .inl e)
      have he12 := (He10.out.non hC11).step hC12 (fun b e => .inl e)
      have hrb12 := (Hrb10.out.non hC11).step hC12 (fun b e => .inl e)
      have hrS12 := (HrS10.out.non hC11).step hC12 (fun b e => .inl e)
      have hrL12 := (HrL10.out.non hC11).step hC12 (fun b e => .inl e)
      have Han1 : Hid ((x1.an : Int) ≤ s1.u) := by show _ ≤ _; rw [hx1n]; exact Han.out
      have hok12 := Hok9.out
      rw [← hx1A] at ht12 he12 hrb12 hrS12 hrL12 hok12
      obtain ⟨w12, hw12⟩ : ∃ w12, w11.setCell ⟨gr, en * 8 + 5, none⟩ (.int .i64 (IntKind.i64.wrap (x0.steps + ev.steps))) = w12 := ⟨_, rfl⟩
      rw [hw12] at hL12 hC12 ht12 he12 hrb12 hrS12 hrL12
      have el12 := he12.1.lt
      have c0 : w12.cell? ⟨ge, 0, none⟩ = some (.int .i64 ev.kind) := he12.1.cell 0
      have HL12 := Lib.hid hL12
      have Ht12 := Lib.hid ht12
      have He12 := Lib.hid he12
      have Hrb12 := Lib.hid hrb12
      have HrS12 := Lib.hid hrS12
      have HrL12 := Lib.hid hrL12
      have HC12 := Lib.hid ((HN9.out.of_non.trans HC10.out).trans (hC11.of_non.trans hC12))
      have HC912 : Hid (Chg (Mine ab sb (some ⟨gr, 0, none⟩) x1.aA kA) w9 w12) := by show Chg _ _ _; rw [hx1A]; exact HC10.out.trans (hC11.of_non.trans hC12)
      have Hx1A := Lib.hid hx1A
      clear hL12 hC12 ht12 he12 hrb12 hrS12 hrL12 hx1A hx1n hx1 HL10 Ht10 He10 Hrb10 HrS10 HrL10 HC10 HN9 Hw10 HL Hrb g1 gl g5 g3 hC11 Han Hok9
      rcases hok12 with hk3 | ⟨hk1, q1, q2, q3, q4, q5, q6, q7, q8, q9, q10⟩ | ⟨hk2, q1, q2, q3, q4, q5, q6⟩
      · rw [hk3] at c0
        have c5 : w12.cell? ⟨ge, 5, none⟩ = some (.int .i64 ev.err) := He12.out.1.cell 5
        have c6 : w12.cell? ⟨ge, 6, none⟩ = some (.int .i64 ev.val) := He12.out.1.cell 6
        go_wp2_with fail
        have g1 : ∀ wx, Chg Non w12 wx → wx.cell? ⟨ab, 1, none⟩ = some (.slice (some ⟨gr, 0, none⟩) en3 ec3) := fun wx h => (HL12.out.all.box.non h).cell 1
        have gl : ∀ wx, Chg Non w12 wx → ab < wx.heap.size := fun wx h => (HL12.out.all.box.non h).lt
        have g5 : ∀ wx, Chg Non w12 wx → wx.cell? ⟨ge, 5, none⟩ = some (.int .i64 ev.err) := fun wx h => h.cell c5 _root_.id
        have g6 : ∀ wx, Chg Non w12 wx → wx.cell? ⟨ge, 6, none⟩ = some (.int .i64 ev.val) := fun wx h => h.cell c6 _root_.id
        refine y_region_tail 14 7 Non [] [] (fun _ _ _ _ => True) (fun _ _ _ _ => True) (fun _ _ _ => True) (fun _ => True) (by kernel_rfl) (by kernel_rfl) (by kernel_rfl) (fun _ h => h.elim) trivial (fun _ _ _ => trivial) ?_
        repeat (first | (refine y_plain (Non) (w12) rfl rfl (f := ?_) (a2 := ?_) (k2 := ?_) (wanted_none rfl) rfl rfl (fun w hC hG => ?_) ?_ ?_ ?_ rfl; rotate_left 3; (clear hG; first | (go_simp; done) | (go_simp; with_reducible rfl) | (simp [*, go_sem, ↓IntWalk.iteOmega]; done) | (simp [*, go_sem, ↓IntWalk.iteOmega]; with_reducible rfl)); (simp only [Act.put, List.setIfInBounds_toArray, List.set_cons_succ, List.set_cons_zero]; with_reducible exact rfl); ((conv => lhs; simp only [Nat.reduceAdd]); try with_reducible exact rfl)) | (refine y_pass (a2 := ?_) (k2 := ?_) (wanted_no rfl rfl rfl rfl) ?_ ?_ ?_ rfl; rotate_left 2; (simp only [Act.put, List.setIfInBounds_toArray, List.set_cons_succ, List.set_cons_zero]; with_reducible exact rfl); ((conv => lhs; simp only [Nat.reduceAdd]); try with_reducible exact rfl)) | (refine y_plain (Non) (w12) rfl rfl (f := ?_) (a2 := ?_) (k2 := ?_) (wanted_yes rfl rfl rfl) rfl rfl (fun w hC hG => ?_) ?_ ?_ ?_ rfl; rotate_left 3; (clear hG; first | (go_simp; done) | (go_simp; with_reducible rfl) | (simp [*, go_sem, ↓IntWalk.iteOmega]; done) | (simp [*, go_sem, ↓IntWalk.iteOmega]; with_reducible rfl)); (simp only [Act.put, List.setIfInBounds_toArray, List.set_cons_succ, List.set_cons_zero]; with_reducible exact rfl); ((conv => lhs; simp only [Nat.reduceAdd]); try with_reducible exact rfl)))
        refine y_tail Non w12 rfl rfl rfl (fun w13 hC13 _ _ => ?_)
        simp only [List.drop_succ_cons, List.drop_zero]
        have hL13 := HL12.out.non hC13
        have he13 := He12.out.non hC13
        have hrb13 := Hrb12.out.non hC13
        have u3 := hL13.all.own.cellN entC_len at_get (j := 3) (u := .int .i64 x1.err) rfl
        have u4 := hL13.all.own.cellN entC_len at_get (j := 4) (u := .int .i64 x1.val) rfl
        have f3 := hL13.all.own.frozen (en * 8 + 3)
        have f4 := hL13.all.own.frozen (en * 8 + 4)
        rw [Hat.out] at u3 u4
        obtain ⟨hLa, hCa⟩ := hL13.cell (y := { x1 with err := ev.err }) (j := 3) (u := .int .i64 ev.err) (by decide) rfl rfl rfl rfl rfl rfl
        obtain ⟨hLb, hCb⟩ := hLa.cell (y := { x1 with err := ev.err, val := ev.val }) (j := 4) (u := .int .i64 ev.val) (by decide) rfl rfl rfl rfl rfl rfl
        rw [Hat.out] at hLb hCb hCa
        have hrb15 := (hrb13.step hCa (fun b e => .inl e)).step hCb (fun b e => .inl e)
        have he15 := (he13.step hCa (fun b e => .inl e)).step hCb (fun b e => .inl e)
        obtain ⟨w15, hw15⟩ : ∃ w15, (w13.setCell ⟨gr, en * 8 + 3, none⟩ (.int .i64 ev.err)).setCell ⟨gr, en * 8 + 4, none⟩ (.int .i64 ev.val) = w15 := ⟨_, rfl⟩
        rw [hw15] at hLb hrb15 he15
        obtain ⟨hp, hb⟩ := hLb.ret hrb15 ev.err ev.val
        have t0 := hb.cell 0
        have t1 := hb.cell 1
        have c5 : w13.cell? ⟨ge, 5, none⟩ = some (.int .i64 ev.err) := he13.1.cell 5
        have c6 : w13.cell? ⟨ge, 6, none⟩ = some (.int .i64 ev.val) := he13.1.cell 6
        have d5 : w15.cell? ⟨ge, 5, none⟩ = some (.int .i64 ev.err) := he15.1.cell 5
        have d6 : w15.cell? ⟨ge, 6, none⟩ = some (.int .i64 ev.val) := he15.1.cell 6
        have el13 := he13.1.lt
        have el15 := he15.1.lt
        have rl15 := hrb15.1.lt
        have r0 : w15.cell? ⟨w.heap.size, 0, none⟩ = some (.int .i64 0) := hrb15.1.cell 0
        have r1 : w15.cell? ⟨w.heap.size, 1, none⟩ = some (.int .i64 0) := hrb15.1.cell 1
        have z0 := hrb15.1.frozen 0
        have z1 := hrb15.1.frozen 1
        have Hp := Lib.hid hp
        clear hp hb hLa hCa hLb hCb hrb15 he15 hrb13 he13 hL13 hC13 g1 gl g5 g6
        go_wp2_with fail
        exact bodyPost_ret (v := .agg #[.int .i64 ev.err, .int .i64 ev.val]) (by simp [results, Try.results29, go_sem, t0, t1]) rfl Hp.out
      · rw [hk1] at c0
        have hkn : ev.kid = (kn : Int) := by have := Hsk.out; omega
        have hkn16 : (kn : Int) < 16 := by have := Hsk.out; omega
        have c1 : w12.cell? ⟨ge, 1, none⟩ = some (.int .i64 ev.fn) := He12.out.1.cell 1
        have c2 : w12.cell? ⟨ge, 2, none⟩ = some (.int .i64 (kn : Int)) := by rw [← hkn]; exact He12.out.1.cell 2
        have hkid := kid_yes (k := (kn : Int)) Hv.out q5 (by omega) hkn16
        have hkv := kid_vid hkid
        have hkc := refKid_any id (kn : Int) w12 (by unfold i64; omega) (by omega)
        rw [hkid] at hkc
        obtain ⟨kd, hkd⟩ : ∃ kd, (kid id (kn : Int)).1 = kd := ⟨_, rfl⟩
        rw [hkd] at hkc hkv
        have hkI := HI.out kd hkv.1 hkv.2
        have Hkc := Lib.hid hkc
        have Hkid := Lib.hid hkid
        have Hkd := Lib.hid hkd
        have HkI := Lib.hid hkI
        have Hq1 := Lib.hid q1
        have Hq6 := Lib.hid q6
        have Hq7 := Lib.hid q7
        have Hq8 := Lib.hid q8
        have Hq9 := Lib.hid q9
        have Hq10 := Lib.hid q10
        clear hkc hkid hkd hkI hkv hkn q1 q2 q3 q4 q5 q6 q7 q8 q9 q10 hk1
        go_wp2_with fail
        refine Hkc.out.mono ?_
        rintro e wk ⟨rfl, hck⟩
        have hLk := HL12.out.non hck
        have hek := He12.out.non hck
        have c1k : wk.cell? ⟨ge, 1, none⟩ = some (.int .i64 ev.fn) := hek.1.cell 1
        have c4k : wk.cell? ⟨ge, 4, none⟩ = some (.slice ev.A ev.n ev.c) := hek.1.cell 4
        have elk := hek.1.lt
        have hrA := (Hq9.out.step HC912.out (fun b e => .inl e)).non hck
        have hdo := HkI.out wk (E ++ x1 :: N) false (some ⟨gr, 0, none⟩) en3 ec3 ev.fn ev.A ev.n ev.c ev.L hLk.all ⟨hrA.1, fun h0 b hb => ⟨(hrA.2 h0 b hb).1, fun e => (hrA.2 h0 b hb).2 (e.elim .inl (fun e => .inr (.inr (.inl e))))⟩⟩ Hq10.out
        have Hdo := Lib.hid hdo
        have HLk := Lib.hid hLk
        have Hck := Lib.hid hck
        clear hdo hrA hLk hek hck c0 c1 c2 el12
        go_wp2_with fail
        refine Hdo.out.mono ?_
        rintro e w14 ⟨er, va, over2, M, eA2, en2, ec2, rfl, hA14, hSub, hov14, hC14, hnew14, hrow14⟩
        have hkid2 := Hkid.out
        obtain ⟨hL14, hD14, hM14⟩ := HLk.out.kid rfl hkid2 hA14 (by rw [Hkd.out]; exact hSub) (fun e => by rw [Hkd.out]; exact hov14 e) hC14 hnew14 hrow14
        have hrb14 := (Hrb12.out.non Hck.out).step hD14 hM14
        have hrS14 := (HrS12.out.non Hck.out).step hD14 hM14
        have hrL14 := (HrL12.out.non Hck.out).step hD14 hM14
        obtain ⟨g2, rfl⟩ := hL14.form
        obtain ⟨w15, hw15⟩ : ∃ w15, w14.alloc (.cells #[.int .i64 er, .int .i64 va] 30) = w15 := ⟨_, rfl⟩
        have hN15 : Chg Non w14 w15 := hw15 ▸ (Chg.refl _ _).alloc _
        have hr15 : Blk w15 w14.heap.size 30 #[.int .i64 er, .int .i64 va] := hw15 ▸ Blk.new w14 _ _
        have e0 : w15.cell? ⟨w14.heap.size, 0, none⟩ = some (.int .i64 er) := hr15.cell 0
        have e1 : w15.cell? ⟨w14.heap.size, 1, none⟩ = some (.int .i64 va) := hr15.cell 1
        have el := hr15.lt
        have hL15 := hL14.non hN15
        have hkd15 := hL15.kd
        have hone : ∀ u ∈ (#[.int .i64 er, .int .i64 va] : Array Value).toList, u.oneCell' = true := by
          intro u hu
          simp only [List.mem_cons, List.not_mem_nil, or_false] at hu
          rcases hu with rfl | rfl <;> rfl
        have hs15 : w.heap.size ≤ w15.heap.size := hL15.chg.size
        have HL15 := Lib.hid hL15
        have Hrb15 := Lib.hid (hrb14.non hN15)
        have HrS15 := Lib.hid (hrS14.non hN15)
        have HrL15 := Lib.hid (hrL14.non hN15)
        clear hA14 hSub hov14 hC14 hnew14 hrow14 hL14 hD14 hM14 hrb14 hrS14 hrL14 hN15 hr15 hL15 hkid2 c1k c4k elk
        have hi4 : en < en2 := by
          have h1 := HL15.out.all.len
          have h2 := Hen.out
          rw [List.length_append, List.length_cons] at h1
          omega
        have i3 : (en : Int) < en2 := by omega
        go_wp2_with (at_builtin; refine appR1s (K := rkRs) rfl (.tmp 122) (.tmp 124) rfl hkd15 rfl (cs := #[.int .i64 er, .int .i64 va]) rfl rfl hone ?_ ?_ ?_; (next => omega); (next => exact hs15); intro A7 c7 w17 o17 d17 hv17; obtain ⟨hL17, hC17, hM17⟩ := HL15.out.res (r := (er, va)) o17 d17 hv17; have HL17 := Lib.hid hL17; have HC17 := Lib.hid hC17; have HM17 := Lib.hid hM17; have a1 : w17.cell? ⟨ab, 1, none⟩ = some (.slice (some ⟨g2, 0, none⟩) en2 ec2) := hL17.all.box.cell 1; have al17 := hL17.all.box.lt; have u6 := hL17.all.own.cellN entC_len at_get (j := 6) (u := .int .i64 x1.kids) rfl; have f6 := hL17.all.own.frozen (en * 8 + 6); rw [Hat.out] at u6; clear hL17 hC17 hM17 o17 d17 hv17)
        obtain ⟨hL18, hC18⟩ := HL17.out.cell (y := { x1 with kids := wrap64 (x1.kids + 1) }) (j := 6) (u := .int .i64 (wrap64 (x1.kids + 1))) (by decide) rfl rfl rfl rfl rfl rfl
        rw [Hat.out] at hL18 hC18
        have hu5 := HK.out.ok.fuel
        have hR : HdR w0 kb ab w id E eA sb j.fuel (j.fuel - s2.u).toNat (.slice A7 (kn + 1) c7) (w17.setCell ⟨g2, en * 8 + 6, none⟩ (.int .i64 (wrap64 (x1.kids + 1)))) :=
          ⟨_, N ++ M, over2, _, en2, ec2, A7, kn + 1, c7, kr ++ [(er, va)], s2, rfl, hL18, (Hrb15.out.step HC17.out HM17.out).step hC18 (fun b e => .inl e), (HrS15.out.step HC17.out HM17.out).step hC18 (fun b e => .inl e), (HrL15.out.step HC17.out HM17.out).step hC18 (fun b e => .inl e), Hsn2.out, Hln2.out, Hq6.out, (by have := Hq1.out; have := Hsk.out; omega), (by omega), (by have h1 := Han1.out; have h2 := Hq7.out; show (x1.an : Int) ≤ s2.u; omega), Hq8.out, rfl⟩
        refine ⟨⟨_, hR⟩, ?_⟩
        rw [Hm.out]
        have h1 := leastN_le (p := fun m => HdR w0 kb ab w id E eA sb j.fuel m (.slice A7 (kn + 1) c7) (w17.setCell ⟨g2, en * 8 + 6, none⟩ (.int .i64 (wrap64 (x1.kids + 1))))) hR
        have h2 := Hmm.out
        have h3 := Hq7.out
        have h4 := Hq8.out
        omega
      · rw [hk2] at c0
        obtain ⟨i, hi⟩ : ∃ i : Nat, ev.kid = i := ⟨ev.kid.toNat, by omega⟩
        have hik : i < kn := by have := Hsk.out; omega
        have hik2 : (i : Int) < (kn : Nat) := by omega
        have c2 : w12.cell? ⟨ge, 2, none⟩ = some (.int .i64 (i : Int)) := by rw [← hi]; exact He12.out.1.cell 2
        have han6 : x1.an < 1000000 := by have := Han1.out; have := HK.out.ok.fuel.2; have := Huf.out; omega
        have hnA : ∀ b, RowB x1.aA b → Mine ab sb (some ⟨gr, 0, none⟩) x1.aA kA b := fun b hb => .inr (.inr (.inr (.inl hb)))
        have u7 := HL12.out.all.own.cellN entC_len at_get (j := 7) (u := .slice x1.aA x1.an x1.ac) rfl
        rw [Hat.out] at u7
        have g1 : ∀ wx, Chg (RowB x1.aA) w12 wx → wx.cell? ⟨ab, 1, none⟩ = some (.slice (some ⟨gr, 0, none⟩) en3 ec3) := fun wx h => (HL12.out.all.box.chg h (fun e => HL12.out.aw.apart HL12.out.all.box (by decide) (rowB_own e))).cell 1
        have gl : ∀ wx, Chg (RowB x1.aA) w12 wx → ab < wx.heap.size := fun wx h => (HL12.out.all.box.chg h (fun e => HL12.out.aw.apart HL12.out.all.box (by decide) (rowB_own e))).lt
        have g7 : ∀ wx, Chg (RowB x1.aA) w12 wx → wx.cell? ⟨gr, en * 8 + 7, none⟩ = some (.slice x1.aA x1.an x1.ac) := fun wx h => h.cell u7 (fun e => HL12.out.aw.apart2 HL12.out.all.own (by decide) gr (rowB_own e) rfl)
        have g2 : ∀ wx, Chg (RowB x1.aA) w12 wx → wx.cell? ⟨ge, 2, none⟩ = some (.int .i64 (i : Int)) := fun wx h => h.cell c2 (fun e => He12.out.2 (hnA _ e))
        have Hi := Lib.hid hi
        have Hik := Lib.hid hik
        have Hq3 := Lib.hid q3
        have Hq4 := Lib.hid q4
        have Hq5 := Lib.hid q5
        have Hq6 := Lib.hid q6
        clear q1 q2 q3 q4 q5 q6 hk2 hi hik u7
        go_wp2_with fail
        refine y_region_tail 14 17 (RowB x1.aA) [16] [15] (fun _ _ v w5 => OwnR rkN w5 w.heap.size v (x1.an + 1) (iv x1.aw ++ [.int .i64 (i : Int)]) ∧ (∀ b, v.ownBlock = some b → RowB x1.aA b ∨ w12.heap.size ≤ b)) (fun _ _ _ _ => True) (fun _ _ v => ∃ A4 c4, v = .slice A4 (x1.an + 1) c4) (fun wx => OwnR rkN wx w.heap.size (.slice x1.aA x1.an x1.ac) x1.an (iv x1.aw)) (by kernel_rfl) (by kernel_rfl) (by kernel_rfl) (fun b hb => (HL12.out.aw.lt (rowB_own hb)).2) HL12.out.aw (fun _ ob h => h.alloc ob) ?_
        repeat (first | (refine y_plain (RowB x1.aA) (w12) rfl rfl (f := ?_) (a2 := ?_) (k2 := ?_) (wanted_none rfl) rfl rfl (fun w hC hG => ?_) ?_ ?_ ?_ rfl; rotate_left 3; (clear hG; first | (go_simp; done) | (go_simp; with_reducible rfl) | (simp [*, go_sem, ↓IntWalk.iteOmega]; done) | (simp [*, go_sem, ↓IntWalk.iteOmega]; with_reducible rfl)); (simp only [Act.put, List.setIfInBounds_toArray, List.set_cons_succ, List.set_cons_zero]; with_reducible exact rfl); ((conv => lhs; simp only [Nat.reduceAdd]); try with_reducible exact rfl)) | (refine y_pass (a2 := ?_) (k2 := ?_) (wanted_no rfl rfl rfl rfl) ?_ ?_ ?_ rfl; rotate_left 2; (simp only [Act.put, List.setIfInBounds_toArray, List.set_cons_succ, List.set_cons_zero]; with_reducible exact rfl); ((conv => lhs; simp only [Nat.reduceAdd]); try with_reducible exact rfl)) | (refine y_plain (RowB x1.aA) (w12) rfl rfl (f := ?_) (a2 := ?_) (k2 := ?_) (wanted_yes rfl rfl rfl) rfl rfl (fun w hC hG => ?_) ?_ ?_ ?_ rfl; rotate_left 3; (clear hG; first | (go_simp; done) | (go_simp; with_reducible rfl) | (simp [*, go_sem, ↓IntWalk.iteOmega]; done) | (simp [*, go_sem, ↓IntWalk.iteOmega]; with_reducible rfl)); (simp only [Act.put, List.setIfInBounds_toArray, List.set_cons_succ, List.set_cons_zero]; with_reducible exact rfl); ((conv => lhs; simp only [Nat.reduceAdd]); try with_reducible exact rfl)))
        refine y_minor (RowB x1.aA) (w12) rfl rfl (ob := .cells #[.int .i64 (i : Int)] 3) (kd := some (1, 1)) (a2 := ?_) (k2 := ?_) (wanted_none rfl) rfl rfl (fun w hC hG => ?_) (fun g => ?_) ?_ (fun g => ?_) rfl
        rotate_left 2
        · clear hG; first | (go_simp; done) | (go_simp; rfl)
        (simp only [Act.put, mkv, List.setIfInBounds_toArray, List.set_cons_succ, List.set_cons_zero]; with_reducible exact rfl)
        ((conv => lhs; simp only [Nat.reduceAdd]); try with_reducible exact rfl)
        refine y_major (RowB x1.aA) (w12) rfl rfl (a2 := ?_) (k2 := ?_) (wanted_none rfl) rfl (⟨_, none, 0, rfl⟩) (fun _ _ _ _ _ _ => trivial) (fun v w ob h => ⟨OwnR.alloc (K := rkN) h.1 ob, h.2⟩) (fun w hC hG hS => ?_) (fun v => ?_) ?_ (fun v hv => ?_) rfl
        rotate_left 3
        (simp only [Act.put, List.setIfInBounds_toArray, List.set_cons_succ, List.set_cons_zero]; with_reducible exact rfl)
        ((conv => lhs; simp only [Nat.reduceAdd]); try with_reducible exact rfl)
        rotate_left
        · have hB := Rds.blockN (m := 1) (size := 1) (show Blk w g 3 #[.int .i64 (i : Int)] from (hG 15 rfl).2) rfl
          refine settle_appR (K := rkN) (.tmp 151) (.tmp 154) rfl hS rfl hB rfl (iv_one [(i : Int)]) (by omega) (Nat.le_trans HL12.out.chg.size hC.size) ?_
          intro v2 w3 h2 h3 h4
          obtain ⟨A4, c4, rfl, _⟩ := h2.open_
          refine ⟨⟨A4, c4, rfl⟩, h3.mono (fun b e => own_rowB e), ⟨h2, fun b hb => ?_⟩, trivial⟩
          rcases h4 with h5 | h5
          · exact .inl (own_rowB (h5 ▸ hb))
          · rw [h5] at hb
            have := Option.some.inj hb
            have := hC.size
            exact .inr (by omega)
        obtain ⟨A4, c4, rfl⟩ := hv
        refine y_tail (RowB x1.aA) w12 rfl rfl rfl (fun w13 hC13 hS13 _ => ?_)
        simp only [List.drop_succ_cons, List.drop_zero]
        obtain ⟨hS13, hv13⟩ := hS13
        have hk16b : kn ≤ 16 := hk16
        obtain ⟨hL14, hC14, hM14⟩ := HL12.out.await rfl (i := (i : Int)) (by omega) hik2 hk16b han6 hS13 (hC13.mono (fun b e => rowB_own e)) (fun b hb => (hv13 b hb).imp rowB_own (fun e => e))
        rw [Hat.out] at hL14 hC14
        have u7 := g7 w13 hC13
        have f7 := (HL12.out.all.own.chg hC13 (fun q hq e => HL12.out.aw.apart2 HL12.out.all.own (by decide) q (rowB_own e) hq)).frozen (en * 8 + 7)
        obtain ⟨w14, hw14⟩ : ∃ w14, w13.setCell ⟨gr, en * 8 + 7, none⟩ (.slice A4 (x1.an + 1) c4) = w14 := ⟨_, rfl⟩
        rw [hw14] at hL14 hC14
        have ht14 := Ht12.out.step hC14 hM14
        have he14 := He12.out.step hC14 hM14
        have HL14 := Lib.hid hL14
        have Ht14 := Lib.hid ht14
        have He14 := Lib.hid he14
        have Hrb14 := Lib.hid (Hrb12.out.step hC14 hM14)
        have HrS14 := Lib.hid (HrS12.out.step hC14 hM14)
        have HrL14 := Lib.hid (HrL12.out.step hC14 hM14)
        have HA14 := Lib.hid (show (awEnt x1 A4 c4 (i : Int)).an = x1.an + 1 from rfl)
        obtain ⟨x2, hx2⟩ : ∃ x2, awEnt x1 A4 c4 (i : Int) = x2 := ⟨_, rfl⟩
        clear hL14 ht14 he14 hC14 hM14 hS13 hv13 hC13 g1 gl g7 g2 c0 c2 el12
        go_wp2_with fail
        obtain ⟨gk, hgk⟩ : ∃ gk, kA = some ⟨gk, 0, none⟩ := by
          obtain ⟨gk, ck, e, _⟩ := HL14.out.kd.form (by have := Hik.out; omega)
          injection e with e1
          exact ⟨gk, e1⟩
        subst hgk
        have hkrl : kr.length = kn := (HL14.out.kd.lenF cellRs_len).symm
        obtain ⟨⟨er, va⟩, hr⟩ : ∃ r, kr[i]? = some r := ⟨_, List.getElem?_eq_getElem (by have := Hik.out; omega)⟩
        have v0 : w14.cell? ⟨gk, i * 2, none⟩ = some (.int .i64 er) := HL14.out.kd.cellN cellRs_len hr (j := 0) rfl
        have v1 : w14.cell? ⟨gk, i * 2 + 1, none⟩ = some (.int .i64 va) := HL14.out.kd.cellN cellRs_len hr (j := 1) rfl
        have j1 : (0 : Int) ≤ (i : Int) := by omega
        have j2 : (i : Int) < kn := by have := Hik.out; omega
        have c2 : w14.cell? ⟨ge, 2, none⟩ = some (.int .i64 (i : Int)) := by rw [← Hi.out]; exact He14.out.1.cell 2
        have xs : ∀ wx, Chg Non w14 wx → Blk wx sb 95 #[.int .i64 s2.f, .int .i64 s2.p, .int .i64 s2.u, .slice s2.sA s2.sn s2.sc, .slice s2.lA s2.ln s2.lc, .int .i64 s2.k, .bool s2.wt] := fun wx h => HL14.out.sbx.non h
        have g0 : ∀ wx, Chg Non w14 wx → wx.cell? ⟨sb, 0, none⟩ = some (.int .i64 s2.f) := fun wx h => (xs wx h).cell 0
        have g1 : ∀ wx, Chg Non w14 wx → wx.cell? ⟨sb, 1, none⟩ = some (.int .i64 s2.p) := fun wx h => (xs wx h).cell 1
        have g2 : ∀ wx, Chg Non w14 wx → wx.cell? ⟨sb, 2, none⟩ = some (.int .i64 s2.u) := fun wx h => (xs wx h).cell 2
        have g3 : ∀ wx, Chg Non w14 wx → wx.cell? ⟨sb, 3, none⟩ = some (.slice s2.sA s2.sn s2.sc) := fun wx h => (xs wx h).cell 3
        have g4 : ∀ wx, Chg Non w14 wx → wx.cell? ⟨sb, 4, none⟩ = some (.slice s2.lA s2.ln s2.lc) := fun wx h => (xs wx h).cell 4
        have g5 : ∀ wx, Chg Non w14 wx → wx.cell? ⟨sb, 5, none⟩ = some (.int .i64 s2.k) := fun wx h => (xs wx h).cell 5
        have g6 : ∀ wx, Chg Non w14 wx → wx.cell? ⟨sb, 6, none⟩ = some (.bool s2.wt) := fun wx h => (xs wx h).cell 6
        have ga : ∀ wx, Chg Non w14 wx → wx.cell? ⟨ab, 0, none⟩ = some (.pointer (some ⟨kb, 0, none⟩)) := fun wx h => (HL14.out.all.box.non h).cell 0
        have gl : ∀ wx, Chg Non w14 wx → ab < wx.heap.size := fun wx h => (HL14.out.all.box.non h).lt
        have ge2 : ∀ wx, Chg Non w14 wx → wx.cell? ⟨ge, 2, none⟩ = some (.int .i64 (i : Int)) := fun wx h => h.cell c2 _root_.id
        have gv0 : ∀ wx, Chg Non w14 wx → wx.cell? ⟨gk, i * 2, none⟩ = some (.int .i64 er) := fun wx h => h.cell v0 _root_.id
        have gv1 : ∀ wx, Chg Non w14 wx → wx.cell? ⟨gk, i * 2 + 1, none⟩ = some (.int .i64 va) := fun wx h => h.cell v1 _root_.id
        have Hr9 := Lib.hid hr
        clear xs v0 v1 c2 hkrl hr u7 f7
        refine y_region_last 14 14 13 Non [10] [] (fun _ _ _ _ => True) (fun _ _ v wx => RsK w14 s2 v wx) (fun _ _ v => ∃ s3 ev3, v = .tuple #[.agg (stC s3), .agg (evC ev3)]) (fun _ => True) (by kernel_rfl) (by kernel_rfl) (by kernel_rfl) (by kernel_rfl) (by decide) rfl rfl rfl rfl rfl rfl rfl (fun _ h => h.elim) trivial (fun _ _ _ => trivial) ?_
        repeat (first | (refine y_plain (Non) (w14) rfl rfl (f := ?_) (a2 := ?_) (k2 := ?_) (wanted_none rfl) rfl rfl (fun w hC hG => ?_) ?_ ?_ ?_ rfl; rotate_left 3; (clear hG; first | (go_simp; done) | (go_simp; with_reducible rfl) | (simp [*, go_sem, ↓IntWalk.iteOmega]; done) | (simp [*, go_sem, ↓IntWalk.iteOmega]; with_reducible rfl)); (simp only [Act.put, List.setIfInBounds_toArray, List.set_cons_succ, List.set_cons_zero]; with_reducible exact rfl); ((conv => lhs; simp only [Nat.reduceAdd]); try with_reducible exact rfl)) | (refine y_pass (a2 := ?_) (k2 := ?_) (wanted_no rfl rfl rfl rfl) ?_ ?_ ?_ rfl; rotate_left 2; (simp only [Act.put, List.setIfInBounds_toArray, List.set_cons_succ, List.set_cons_zero]; with_reducible exact rfl); ((conv => lhs; simp only [Nat.reduceAdd]); try with_reducible exact rfl)) | (refine y_plain (Non) (w14) rfl rfl (f := ?_) (a2 := ?_) (k2 := ?_) (wanted_yes rfl rfl rfl) rfl rfl (fun w hC hG => ?_) ?_ ?_ ?_ rfl; rotate_left 3; (clear hG; first | (go_simp; done) | (go_simp; with_reducible rfl) | (simp [*, go_sem, ↓IntWalk.iteOmega]; done) | (simp [*, go_sem, ↓IntWalk.iteOmega]; with_reducible rfl)); (simp only [Act.put, List.setIfInBounds_toArray, List.set_cons_succ, List.set_cons_zero]; with_reducible exact rfl); ((conv => lhs; simp only [Nat.reduceAdd]); try with_reducible exact rfl)))
        refine y_major (Non) (w14) rfl rfl (a2 := ?_) (k2 := ?_) (wanted_none rfl) rfl (⟨_, st0, ev0, rfl⟩) (fun v w1 w2 _ hc h => h.non hc) (fun _ _ _ _ => trivial) (fun w hC hG hS => ?_) (fun v => ?_) ?_ (fun v hv => ?_) rfl
        rotate_left 3
        (simp only [Act.put, List.setIfInBounds_toArray, List.set_cons_succ, List.set_cons_zero]; with_reducible exact rfl)
        ((conv => lhs; simp only [Nat.reduceAdd]); try with_reducible exact rfl)
        rotate_left
        · refine settle_of (r2 := .ok (.enter 49 #[.pointer (some ⟨kb, 0, none⟩), .agg (stC s2), .agg #[.int .i64 er, .int .i64 va]]) w) ?_ (settle_enter ((refResume_any w kb j dA dc R (HK.out.non (HL14.out.non hC).all.kn) s2 ⟨HrS14.out.1.non hC, HrL14.out.1.non hC, Hsn2.out, Hln2.out⟩ Hq4.out er va).mono ?_))
          · (first | (go_simp; done) | (go_simp; rfl))
          · rintro e w9 ⟨s3, ev3, rfl, q1, q2, q3, q4, q5⟩
            exact ⟨_, rfl, ⟨s3, ev3, rfl⟩, q2, trivial, ⟨s3, ev3, rfl, q1, fun b hb => Nat.le_trans hC.size (q3 b hb), fun b hb => Nat.le_trans hC.size (q4 b hb), q5⟩⟩
        obtain ⟨s3a, ev3a, rfl⟩ := hv
        repeat (first | (refine y_plain (Non) (w14) rfl rfl (f := ?_) (a2 := ?_) (k2 := ?_) (wanted_none rfl) rfl rfl (fun w hC hG => ?_) ?_ ?_ ?_ rfl; rotate_left 3; (clear hG; first | (go_simp; done) | (go_simp; with_reducible rfl) | (simp [*, go_sem, ↓IntWalk.iteOmega]; done) | (simp [*, go_sem, ↓IntWalk.iteOmega]; with_reducible rfl)); (simp only [Act.put, List.setIfInBounds_toArray, List.set_cons_succ, List.set_cons_zero]; with_reducible exact rfl); ((conv => lhs; simp only [Nat.reduceAdd]); try with_reducible exact rfl)) | (refine y_pass (a2 := ?_) (k2 := ?_) (wanted_no rfl rfl rfl rfl) ?_ ?_ ?_ rfl; rotate_left 2; (simp only [Act.put, List.setIfInBounds_toArray, List.set_cons_succ, List.set_cons_zero]; with_reducible exact rfl); ((conv => lhs; simp only [Nat.reduceAdd]); try with_reducible exact rfl)) | (refine y_plain (Non) (w14) rfl rfl (f := ?_) (a2 := ?_) (k2 := ?_) (wanted_yes rfl rfl rfl) rfl rfl (fun w hC hG => ?_) ?_ ?_ ?_ rfl; rotate_left 3; (clear hG; first | (go_simp; done) | (go_simp; with_reducible rfl) | (simp [*, go_sem, ↓IntWalk.iteOmega]; done) | (simp [*, go_sem, ↓IntWalk.iteOmega]; with_reducible rfl)); (simp only [Act.put, List.setIfInBounds_toArray, List.set_cons_succ, List.set_cons_zero]; with_reducible exact rfl); ((conv => lhs; simp only [Nat.reduceAdd]); try with_reducible exact rfl)))
        refine y_tail Non w14 rfl rfl rfl (fun w15 hC15 _ hG => ?_)
        have hk15 : RsK w14 s2 (.tuple #[.agg (stC s3a), .agg (evC ev3a)]) w15 := hG 10
        have ht15 := (Ht14.out.non hC15).1
        have he15 := (He14.out.non hC15).1
        have hte : gt ≠ ge := ht15.apart he15 (by decide)
        clear hG g0 g1 g2 g3 g4 g5 g6 ga gl ge2 gv0 gv1
        refine last_store (.tmp 13) (.tmp 170) rfl (cs := stC s3a) rfl rfl ht15 rfl (by kernel_rfl) (by simp [Value.oneCell', stC]) ?_
        intro w16 ht16 hS16
        have he16 := he15.chg hS16 (fun e => hte e.symm)
        simp only [List.drop_succ_cons, List.drop_zero]
        refine wpList_store_all rfl (.tmp 14) (.tmp 171) rfl (cs := evC ev3a) rfl rfl he16 rfl (by kernel_rfl) (by simp [Value.oneCell', evC]) ?_
        intro w17 he17 hS17
        have ht17 := ht16.chg hS17 (fun e => hte e)
        obtain ⟨s3, ev3, hv, hst15, hfs, hfl, hok15⟩ := hk15
        obtain ⟨hv1, hv2⟩ : stC s3a = stC s3 ∧ evC ev3a = evC ev3 := by
          injection hv with hv
          injection hv with hv
          injection hv with h1 h2
          injection h1 with h1
          injection h2 with h2
          injection h2 with h2
          exact ⟨h1, h2⟩
        rw [hv1] at ht17
        rw [hv2] at he17
        have htl := Ht14.out.1.lt
        have hel := He14.out.1.lt
        have hS2 : Chg (fun b => b = gt ∨ b = ge) w15 w17 := (hS16.mono (fun b e => .inl e)).trans2 hS17 (fun b e => .inl (.inr e))
        have hst17 : StAt w17 s3 := ⟨hst15.rs.chg hS2 (fun ad e e2 => by have := hfs _ ⟨ad, e, rfl⟩; rcases e2 with e2 | e2 <;> omega), hst15.rl.chg hS2 (fun ad e e2 => by have := hfl _ ⟨ad, e, rfl⟩; rcases e2 with e2 | e2 <;> omega), hst15.sn, hst15.ln⟩
        have hL17 := (HL14.out.non hC15).other hS2 (fun b e => by
          have h1 := HL12.out.chg.size
          rcases e with e | e
          · exact ⟨by rw [e]; exact Hgtl.out, by rw [e]; exact Ht14.out.2⟩
          · exact ⟨by rw [e]; exact Hgel.out, by rw [e]; exact He14.out.2⟩) (fun x hx h0 b hb e => by
          have h1 := HlowE.out x hx h0 b hb
          rcases e with e | e
          · have := Hgtr.out; omega
          · have := Hger.out; omega)
        have hrb17 := (Hrb14.out.non hC15).1.chg hS2 (fun e => by have h1 := Hgtl.out; have h2 := Hgel.out; have h3 := Hgtr.out; have h4 := Hger.out; have h5 := Hrbr.out; rcases e with e | e <;> omega)
        have hs17 := hL17.sbx
        obtain ⟨x0', x1', x2', x3', x4', x5', x6'⟩ := cell7 hs17
        obtain ⟨z0, z1, z2, z3, z4, z5, z6⟩ : w17.frozen? ⟨sb, 0, none⟩ = false ∧ w17.frozen? ⟨sb, 1, none⟩ = false ∧ w17.frozen? ⟨sb, 2, none⟩ = false ∧ w17.frozen? ⟨sb, 3, none⟩ = false ∧ w17.frozen? ⟨sb, 4, none⟩ = false ∧ w17.frozen? ⟨sb, 5, none⟩ = false ∧ w17.frozen? ⟨sb, 6, none⟩ = false := ⟨hs17.frozen 0, hs17.frozen 1, hs17.frozen 2, hs17.frozen 3, hs17.frozen 4, hs17.frozen 5, hs17.frozen 6⟩
        obtain ⟨t0, t1, t2, t3, t4, t5, t6⟩ := cell7 (show Blk w17 gt 95 #[.int .i64 s3.f, .int .i64 s3.p, .int .i64 s3.u, .slice s3.sA s3.sn s3.sc, .slice s3.lA s3.ln s3.lc, .int .i64 s3.k, .bool s3.wt] from ht17)
        have sl17 := hs17.lt
        have tl17 := ht17.lt
        obtain ⟨w18, hw18⟩ : ∃ w18, set7 w17 sb (.int .i64 s3.f) (.int .i64 s3.p) (.int .i64 s3.u) (.slice s3.sA s3.sn s3.sc) (.slice s3.lA s3.ln s3.lc) (.int .i64 s3.k) (.bool s3.wt) = w18 := ⟨_, rfl⟩
        have hS18 : Chg (fun b => b = sb) w17 w18 := hw18 ▸ set7_chg _ _ _ _ _ _ _ _ _
        have hb18 := set7_blk hs17 (.int .i64 s3.f) (.int .i64 s3.p) (.int .i64 s3.u) (.slice s3.sA s3.sn s3.sc) (.slice s3.lA s3.ln s3.lc) (.int .i64 s3.k) (.bool s3.wt)
        rw [hw18] at hb18
        obtain ⟨hL18, hC18⟩ := hL17.state hS18 hb18
        have He18 := Lib.hid (show BlkF (Mine ab sb (some ⟨gr, 0, none⟩) (awEnt x1 A4 c4 (i : Int)).aA (some ⟨gk, 0, none⟩)) w18 ge 100 (evC ev3) from ⟨he17.chg hS18 (fun e => He14.out.2 (.inr (.inl e))), He14.out.2⟩)
        have Hrb18 := Lib.hid (show BlkF (Mine ab sb (some ⟨gr, 0, none⟩) (awEnt x1 A4 c4 (i : Int)).aA (some ⟨gk, 0, none⟩)) w18 w.heap.size 30 #[.int .i64 0, .int .i64 0] from ⟨hrb17.chg hS18 (fun e => Hrb14.out.2 (.inr (.inl e))), Hrb14.out.2⟩)
        have HrS18 := Lib.hid ((RdF.new hst17.rs hfs HL14.out.low).step hC18 (fun b e => .inl e))
        have HrL18 := Lib.hid ((RdF.new hst17.rl hfl HL14.out.low).step hC18 (fun b e => .inl e))
        have HL18 := Lib.hid hL18
        have Hsn3 := Lib.hid hst17.sn
        have Hln3 := Lib.hid hst17.ln
        have c0 : w18.cell? ⟨ge, 0, none⟩ = some (.int .i64 ev3.kind) := He18.out.1.cell 0
        have el18 := He18.out.1.lt
        unfold set7 at hw18
        clear hL17 hL18 hC18 hS18 hb18 hs17 hst17 hst15 hrb17 ht17 he17 ht16 he16 hS16 hS17 hS2 ht15 he15 hC15 hfs hfl htl hel hte hv hv1 hv2
        simp only [Act.put, List.setIfInBounds_toArray, List.set_cons_succ, List.set_cons_zero]
        rcases hok15 with hk3 | ⟨hk0, q1, q2, q3⟩
        · rw [hk3] at c0
          have c5 : w18.cell? ⟨ge, 5, none⟩ = some (.int .i64 ev3.err) := He18.out.1.cell 5
          have c6 : w18.cell? ⟨ge, 6, none⟩ = some (.int .i64 ev3.val) := He18.out.1.cell 6
          go_wp2_with fail
          have g1 : ∀ wx, Chg Non w18 wx → wx.cell? ⟨ab, 1, none⟩ = some (.slice (some ⟨gr, 0, none⟩) en3 ec3) := fun wx h => (HL18.out.all.box.non h).cell 1
          have gl : ∀ wx, Chg Non w18 wx → ab < wx.heap.size := fun wx h => (HL18.out.all.box.non h).lt
          have g5 : ∀ wx, Chg Non w18 wx → wx.cell? ⟨ge, 5, none⟩ = some (.int .i64 ev3.err) := fun wx h => h.cell c5 _root_.id
          have g6 : ∀ wx, Chg Non w18 wx → wx.cell? ⟨ge, 6, none⟩ = some (.int .i64 ev3.val) := fun wx h => h.cell c6 _root_.id
          refine y_region_tail 14 7 Non [] [] (fun _ _ _ _ => True) (fun _ _ _ _ => True) (fun _ _ _ => True) (fun _ => True) (by kernel_rfl) (by kernel_rfl) (by kernel_rfl) (fun _ h => h.elim) trivial (fun _ _ _ => trivial) ?_
          repeat (first | (refine y_plain (Non) (w18) rfl rfl (f := ?_) (a2 := ?_) (k2 := ?_) (wanted_none rfl) rfl rfl (fun w hC hG => ?_) ?_ ?_ ?_ rfl; rotate_left 3; (clear hG; first | (go_simp; done) | (go_simp; with_reducible rfl) | (simp [*, go_sem, ↓IntWalk.iteOmega]; done) | (simp [*, go_sem, ↓IntWalk.iteOmega]; with_reducible rfl)); (simp only [Act.put, List.setIfInBounds_toArray, List.set_cons_succ, List.set_cons_zero]; with_reducible exact rfl); ((conv => lhs; simp only [Nat.reduceAdd]); try with_reducible exact rfl)) | (refine y_pass (a2 := ?_) (k2 := ?_) (wanted_no rfl rfl rfl rfl) ?_ ?_ ?_ rfl; rotate_left 2; (simp only [Act.put, List.setIfInBounds_toArray, List.set_cons_succ, List.set_cons_zero]; with_reducible exact rfl); ((conv => lhs; simp only [Nat.reduceAdd]); try with_reducible exact rfl)) | (refine y_plain (Non) (w18) rfl rfl (f := ?_) (a2 := ?_) (k2 := ?_) (wanted_yes rfl rfl rfl) rfl rfl (fun w hC hG => ?_) ?_ ?_ ?_ rfl; rotate_left 3; (clear hG; first | (go_simp; done) | (go_simp; with_reducible rfl) | (simp [*, go_sem, ↓IntWalk.iteOmega]; done) | (simp [*, go_sem, ↓IntWalk.iteOmega]; with_reducible rfl)); (simp only [Act.put, List.setIfInBounds_toArray, List.set_cons_succ, List.set_cons_zero]; with_reducible exact rfl); ((conv => lhs; simp only [Nat.reduceAdd]); try with_reducible exact rfl)))
          refine y_tail Non w18 rfl rfl rfl (fun w23 hC23 _ _ => ?_)
          simp only [List.drop_succ_cons, List.drop_zero]
          have hL23 := HL18.out.non hC23
          have he23 := He18.out.non hC23
          have hrb23 := Hrb18.out.non hC23
          have u3 := hL23.all.own.cellN entC_len at_get (j := 3) (u := .int .i64 (awEnt x1 A4 c4 (i : Int)).err) rfl
          have u4 := hL23.all.own.cellN entC_len at_get (j := 4) (u := .int .i64 (awEnt x1 A4 c4 (i : Int)).val) rfl
          have f3 := hL23.all.own.frozen (en * 8 + 3)
          have f4 := hL23.all.own.frozen (en * 8 + 4)
          rw [Hat.out] at u3 u4
          obtain ⟨hLa, hCa⟩ := hL23.cell (y := { (awEnt x1 A4 c4 (i : Int)) with err := ev3.err }) (j := 3) (u := .int .i64 ev3.err) (by decide) rfl rfl rfl rfl rfl rfl
          obtain ⟨hLb, hCb⟩ := hLa.cell (y := { (awEnt x1 A4 c4 (i : Int)) with err := ev3.err, val := ev3.val }) (j := 4) (u := .int .i64 ev3.val) (by decide) rfl rfl rfl rfl rfl rfl
          rw [Hat.out] at hLb hCb hCa
          have hrb25 := (hrb23.step hCa (fun b e => .inl e)).step hCb (fun b e => .inl e)
          have he25 := (he23.step hCa (fun b e => .inl e)).step hCb (fun b e => .inl e)
          obtain ⟨w25, hw25⟩ : ∃ w25, (w23.setCell ⟨gr, en * 8 + 3, none⟩ (.int .i64 ev3.err)).setCell ⟨gr, en * 8 + 4, none⟩ (.int .i64 ev3.val) = w25 := ⟨_, rfl⟩
          rw [hw25] at hLb hrb25 he25
          obtain ⟨hp, hb⟩ := hLb.ret hrb25 ev3.err ev3.val
          have t0 := hb.cell 0
          have t1 := hb.cell 1
          have c5 : w23.cell? ⟨ge, 5, none⟩ = some (.int .i64 ev3.err) := he23.1.cell 5
          have c6 : w23.cell? ⟨ge, 6, none⟩ = some (.int .i64 ev3.val) := he23.1.cell 6
          have d5 : w25.cell? ⟨ge, 5, none⟩ = some (.int .i64 ev3.err) := he25.1.cell 5
          have d6 : w25.cell? ⟨ge, 6, none⟩ = some (.int .i64 ev3.val) := he25.1.cell 6
          have el23 := he23.1.lt
          have el25 := he25.1.lt
          have rl25 := hrb25.1.lt
          have r0 : w25.cell? ⟨w.heap.size, 0, none⟩ = some (.int .i64 0) := hrb25.1.cell 0
          have r1 : w25.cell? ⟨w.heap.size, 1, none⟩ = some (.int .i64 0) := hrb25.1.cell 1
          have z0 := hrb25.1.frozen 0
          have z1 := hrb25.1.frozen 1
          have Hp := Lib.hid hp
          clear hp hb hLa hCa hLb hCb hrb25 he25 hrb23 he23 hL23 hC23 g1 gl g5 g6
          go_wp2_with fail
          exact bodyPost_ret (v := .agg #[.int .i64 ev3.err, .int .i64 ev3.val]) (by simp [results, Try.results29, go_sem, t0, t1]) rfl Hp.out
        · rw [hk0] at c0
          have hR : HdR w0 kb ab w id E eA sb j.fuel (j.fuel - s3.u).toNat (.slice (some ⟨gk, 0, none⟩) kn kc) w18 :=
            ⟨awEnt x1 A4 c4 (i : Int), N, false, _, en3, ec3, _, kn, kc, kr, s3, rfl, HL18.out, Hrb18.out, HrS18.out, HrL18.out, Hsn3.out, Hln3.out, q1, (by have := Hq3.out; have := Hsk.out; omega), hk16, (by have h1 := Han1.out; have h2 := Hq5.out; show ((x1.an + 1 : Nat) : Int) ≤ s3.u; omega), (by have := Hq6.out; omega), rfl⟩
          have HR := Lib.hid hR
          have Hq9 := Lib.hid q3
          clear hR q1 q2 q3
          go_wp2_with fail
          refine ⟨⟨_, HR.out⟩, ?_⟩
          rw [Hm.out]
          have h1 := leastN_le (p := fun m => HdR w0 kb ab w id E eA sb j.fuel m (.slice (some ⟨gk, 0, none⟩) kn kc) w18) HR.out
          have h2 := Hmm.out
          have h3 := Hq5.out
          have h4 := Hq6.out
          have h5 := Hq9.out
          omega
end Go.Proofs.Yteinbdifncdaiaa
