/-
  gleanerref4.(*Known).step: mul, div.
-/
import Derived.Test.YteinbdifncdaiaaTdDeepStk
namespace Go.Proofs.Yteinbdifncdaiaa
open Go.RowKit
set_option linter.unusedVariables false
set_option linter.unusedSimpArgs false

set_option maxRecDepth 100000 in
set_option maxHeartbeats 16000000 in
theorem refStep_9 (w : World) (b : Nat) (j : Jb) (dA : Option Addr) (dc : Nat) (R : List DRow) (hk : KnAt w b j dA dc R) (sb : Nat) (s : Stt) (hbx : Blk w sb 95 (stC s)) (hst : StW w s) (fi pi : Nat) (f : Fn) (r : DRow) (hm : MayP j R s fi pi f r) (hwt : s.wt = false) (deep : Int) (N : Int) (hi : f.code[pi]? = some (9, N)) :
    Calls Try.prog 65 #[.pointer (some ⟨b, 0, none⟩), .pointer (some ⟨sb, 0, none⟩), .int .i64 deep] w (SpPost w j R sb deep s) := by
  obtain ⟨fad, dad, f2, r2, hKf⟩ := hk.get hm.fl
  have e1 : f2 = f := by have := hKf.gf; rw [hm.gf] at this; exact (Option.some.inj this).symm
  have e2 : r2 = r := by have := hKf.gr; rw [hm.gr] at this; exact (Option.some.inj this).symm
  subst e1
  subst e2
  obtain ⟨hpops, hs32, hd32, hnext⟩ := stepOk hm hKf.cl hKf.cn hk.ok.argsOk hi
  have hins := hKf.ok.ins _ (List.mem_of_getElem? hi)
  obtain ⟨ia, i2, hia, hi2, hi0, hi1⟩ := hKf.code.getN cellI_len (by decide) (k := pi) hm.pl
  rw [hi] at hi2
  obtain rfl := Option.some.inj hi2
  have hbL : Blk w sb 95 #[.int .i64 fi, .int .i64 pi, .int .i64 s.u, .slice s.sA s.sn s.sc, .slice s.lA s.ln s.lc, .int .i64 s.k, .bool false] := by
    have h9 := hbx
    unfold stC at h9
    rw [hm.hf, hm.hp, hwt] at h9
    exact h9
  obtain ⟨w1, hw1⟩ : ∃ w1, w.alloc (.cells #[.int .i64 0, .int .i64 0, .int .i64 0, .int .i64 0, .slice none 0 0, .int .i64 0, .int .i64 0] 100) = w1 := ⟨_, rfl⟩
  have hc1 : Chg Non w w1 := hw1 ▸ (Chg.refl _ _).alloc _
  have hr1 : Blk w1 w.heap.size 100 #[.int .i64 0, .int .i64 0, .int .i64 0, .int .i64 0, .slice none 0 0, .int .i64 0, .int .i64 0] := hw1 ▸ Blk.new w _ _
  have hb1 := hbL.non hc1
  have hk1 := hk.non hc1
  have hbl := hb1.lt
  have hkl := hk1.blk.lt
  have hfz : (fad.add (fi * 4)).block < w1.heap.size := World.block_lt_of_cell? w1 _ (hc1.cell hKf.c0 id)
  have hiz : (ia.add (pi * 2)).block < w1.heap.size := World.block_lt_of_cell? w1 _ (hc1.cell (hi0 _ rfl) id)
  have x0 : ∀ wx, Chg Non w1 wx → wx.cell? ⟨sb, 0, none⟩ = some (.int .i64 fi) := fun wx h => (hb1.non h).cell 0
  have x1 : ∀ wx, Chg Non w1 wx → wx.cell? ⟨sb, 1, none⟩ = some (.int .i64 pi) := fun wx h => (hb1.non h).cell 1
  have y0 : ∀ wx, Chg Non w1 wx → wx.cell? ⟨b, 0, none⟩ = some (.slice (some fad) j.fn j.fc) := fun wx h => by
    have h9 := (hk1.non h).blk.cell 0
    rw [show (knC j dA j.fn dc)[0]? = some (.slice j.fA j.fn j.fc) from rfl, hKf.fA] at h9
    exact h9
  have y3 : ∀ wx, Chg Non w1 wx → wx.cell? ⟨(fad.add (fi * 4)).block, (fad.add (fi * 4)).off + 3, none⟩ = some (.slice (some ia) f2.cn f2.cc) := fun wx h => by
    have h9 := (hc1.non h).cell hKf.c3 id
    rw [hia] at h9
    exact h9
  have i0 : ∀ wx, Chg Non w1 wx → wx.cell? (ia.add (pi * 2)) = some (.int .i64 9) := fun wx h => (hc1.non h).cell (hi0 _ rfl) id
  have i1 : ∀ wx, Chg Non w1 wx → wx.cell? ⟨(ia.add (pi * 2)).block, (ia.add (pi * 2)).off + 1, none⟩ = some (.int .i64 N) := fun wx h => (hc1.non h).cell (hi1 0 _ rfl) id
  have b1 : (0 : Int) ≤ (fi : Int) := by omega
  have b2 : (fi : Int) < j.fn := by have := hm.fl; omega
  have b3 : (0 : Int) ≤ (pi : Int) := by omega
  have b4 : (pi : Int) < f2.cn := by have := hm.pl; omega
  have b5 := hm.fl
  have b6 := hm.pl
  have hsb : sb < w.heap.size := hbL.lt
  have hjn : j.fn ≤ 32 := by have := hk.ok.nF.2; have := hk.job.fns.len; omega
  have hcn2 : f2.cn ≤ 256 := by have := hKf.ok.code; have := hKf.cn; omega
  have Hm := Lib.hid hm
  have HK := Lib.hid hk
  have HKf := Lib.hid hKf
  have Hs := Lib.hid hst
  have Hc1 := Lib.hid hc1
  have Hr1 := Lib.hid hr1
  have Hb1 := Lib.hid hb1
  have Hins := Lib.hid hins
  have Hnext := Lib.hid hnext
  have Hpops := Lib.hid hpops
  have Hd32 := Lib.hid hd32
  have Hwt := Lib.hid hwt
  have Hi := Lib.hid hi
  clear hm hk hKf hst hc1 hr1 hb1 hk1 hia hi hi0 hi1 hbx hins hnext hpops hd32 hwt hbL
  go_enter Try.func65, Try.ntmps65
  go_wp2_with fail
  refine y_region_tail 12 19 Non [] [18] (fun _ _ _ _ => True) (fun _ _ _ _ => True) (fun _ _ _ => True) (fun _ => True) (by kernel_rfl) (by kernel_rfl) (by kernel_rfl) (fun _ h => h.elim) trivial (fun _ _ _ => trivial) ?_
  repeat (first | (refine y_plain (Non) (w1) rfl rfl (f := ?_) (a2 := ?_) (k2 := ?_) (wanted_none rfl) rfl rfl (fun w hC hG => ?_) ?_ ?_ ?_ rfl; rotate_left 3; (clear hG; first | (go_simp; done) | (go_simp; with_reducible rfl) | (simp [*, go_sem, ↓IntWalk.iteOmega]; done) | (simp [*, go_sem, ↓IntWalk.iteOmega]; with_reducible rfl)); (simp only [Act.put, List.setIfInBounds_toArray, List.set_cons_succ, List.set_cons_zero]; with_reducible exact rfl); ((conv => lhs; simp only [Nat.reduceAdd]); try with_reducible exact rfl)) | (refine y_pass (a2 := ?_) (k2 := ?_) (wanted_no rfl rfl rfl rfl) ?_ ?_ ?_ rfl; rotate_left 2; (simp only [Act.put, List.setIfInBounds_toArray, List.set_cons_succ, List.set_cons_zero]; with_reducible exact rfl); ((conv => lhs; simp only [Nat.reduceAdd]); try with_reducible exact rfl)) | (refine y_plain (Non) (w1) rfl rfl (f := ?_) (a2 := ?_) (k2 := ?_) (wanted_yes rfl rfl rfl) rfl rfl (fun w hC hG => ?_) ?_ ?_ ?_ rfl; rotate_left 3; (clear hG; first | (go_simp; done) | (go_simp; with_reducible rfl) | (simp [*, go_sem, ↓IntWalk.iteOmega]; done) | (simp [*, go_sem, ↓IntWalk.iteOmega]; with_reducible rfl)); (simp only [Act.put, List.setIfInBounds_toArray, List.set_cons_succ, List.set_cons_zero]; with_reducible exact rfl); ((conv => lhs; simp only [Nat.reduceAdd]); try with_reducible exact rfl)))
  refine y_minor (Non) (w1) rfl rfl (ob := .cells #[.int .i64 0, .int .i64 0] 116) (kd := none) (a2 := ?_) (k2 := ?_) (wanted_none rfl) rfl rfl (fun w hC hG => ?_) (fun g => ?_) ?_ (fun g => ?_) rfl
  rotate_left 2
  · clear hG; first | (go_simp; done) | (go_simp; rfl)
  (simp only [Act.put, mkv, List.setIfInBounds_toArray, List.set_cons_succ, List.set_cons_zero]; with_reducible exact rfl)
  ((conv => lhs; simp only [Nat.reduceAdd]); try with_reducible exact rfl)
  refine y_tail Non w1 rfl rfl rfl (fun w5 hC5 _ hG => ?_)
  simp only [List.drop_succ_cons, List.drop_zero]
  have hI5 : Blk w5 g 116 #[.int .i64 0, .int .i64 0] := (hG 18).2
  have hgI : w1.heap.size ≤ g := (hG 18).1
  clear hG x0 x1 y0 y3 i0 i1
  refine wpList_store_all rfl (.tmp 8) (.tmp 31) rfl (cs := #[.int .i64 9, .int .i64 N]) rfl rfl hI5 rfl (by kernel_rfl) (by simp [Value.oneCell']) ?_
  intro w6 hI6 hS6
  obtain ⟨gI, hge⟩ : ∃ gI, gI = g := ⟨_, rfl⟩
  subst hge
  have hC6 : Chg Non w1 w6 := hC5.trans2 hS6 (fun b e => .inr (by have e : b = gI := e; omega))
  have hb6 := Hb1.out.non hC6
  have hr6 := Hr1.out.non hC6
  have hc6 := Hc1.out.non hC6
  have hs6 := Hs.out.non hc6
  have bl6 := hb6.lt
  have il6 := hI6.lt
  have rl6 := hr6.lt
  have i0 : w6.cell? ⟨gI, 0, none⟩ = some (.int .i64 9) := hI6.cell 0
  have i1 : w6.cell? ⟨gI, 1, none⟩ = some (.int .i64 N) := hI6.cell 1
  have x1 : w6.cell? ⟨sb, 1, none⟩ = some (.int .i64 pi) := hb6.cell 1
  have x3 : w6.cell? ⟨sb, 3, none⟩ = some (.slice s.sA s.sn s.sc) := hb6.cell 3
  have hpp : IntKind.i64.wrap ((pi : Int) + 1) = (pi : Int) + 1 := by rw [IntKind.wrap_i64]; omega
  have HB6 := Lib.hid hb6
  have HR6 := Lib.hid hr6
  have HC6 := Lib.hid hc6
  have HS6 := Lib.hid hs6
  have HI6 := Lib.hid hI6
  have hrz : w.heap.size < w1.heap.size := Hr1.out.lt
  have HgI : Hid (w.heap.size < gI ∧ sb < gI) := by show _ ∧ _; omega
  clear hI5 hS6 hC5 hb6 hr6 hc6 hs6 hI6 hgI hC6 hw1 hbl hkl hfz hiz hrz
  have hz0 : 0 < s.sn := by have h9 := Hpops.out; have h8 : popsP j.F (9, N) = 2 := (by simp [popsP]); omega
  obtain ⟨m, hmm⟩ : ∃ m, s.sn = m + 1 := ⟨s.sn - 1, by omega⟩
  obtain ⟨sad, v, hsA, hSv, hsc⟩ := (HS6.out.ws.rds).getI (k := m) (by omega)
  have e1 : (s.sn : Int) - 1 = (m : Int) := by omega
  have e2 : IntKind.i64.wrap ((s.sn : Int) - 1) = (m : Int) := by rw [IntKind.wrap_i64]; omega
  have hsz := World.block_lt_of_cell? w6 _ hsc
  have m1 : (m : Int) < s.sn := by omega
  have m2 : m < s.sn := by omega
  have Hmm := Lib.hid hmm
  have HsA := Lib.hid hsA
  rw [hsA] at x3
  have hz1 : (0 : Int) < s.sn := by omega
  clear hmm hsA
  obtain ⟨m0, hm0⟩ : ∃ m0, m = m0 + 1 := ⟨m - 1, by have h9 := Hpops.out; have h8 : popsP j.F (9, N) = 2 := (by simp [popsP]); have := Hmm.out; omega⟩
  obtain ⟨sad2, v0, hsA2, hSv0, hsc0⟩ := (HS6.out.ws.rds).getI (k := m0) (by omega)
  rw [HsA.out] at hsA2
  obtain rfl := Option.some.inj hsA2
  have e3 : (s.sn : Int) - 2 = (m0 : Int) := by omega
  have e4 : IntKind.i64.wrap ((s.sn : Int) - 2) = (m0 : Int) := by rw [IntKind.wrap_i64]; omega
  have m3 : (m0 : Int) < s.sn := by omega
  have m4 : m0 < s.sn := by omega
  have m5 : (0 : Int) ≤ (m0 : Int) := by omega
  have m6 : (0 : Int) ≤ (m : Int) := by omega
  have e5 : IntKind.i64.wrap (m0 : Int) = (m0 : Int) := by rw [IntKind.wrap_i64]; omega
  have e6 : IntKind.i64.wrap (m : Int) = (m : Int) := by rw [IntKind.wrap_i64]; omega
  have Hm0 := Lib.hid hm0
  clear hm0 hsA2
  have hnx : ∃ q : Nat, (pi : Int) + 1 = q ∧ q < f2.cn ∧ r2.D[q]? = some ((s.sn : Int) - popsP j.F (9, N) + pushP (9, N)) := Hnext.out _ (by simp [nextP])
  have hpu : popsP j.F (9, N) = 2 := by simp [popsP]
  have hph : pushP (9, N) = 1 := by simp [pushP]
  obtain ⟨q, hq1, hq2, hq3⟩ := hnx
  rw [hpu, hph] at hq3
  have Hq1 := Lib.hid hq1
  have Hq3 := Lib.hid hq3
  clear hq1 hq3 hpu hph
  have Hcap : Hid (s.sn ≤ s.sc) := by
    obtain ⟨A0, c0, hac, hcn, _, _⟩ := HS6.out.ws.open_
    injection hac with _ _ e3
    show _ ≤ _
    omega
  have q6 := fun w => run_slice_hi (P := Try.prog) Try.underlying27 (by kernel_rfl) (kl := .i64) (i := (m : Int)) (k := m) (c := s.sc) rfl (by have h8 := Hcap.out; omega) (some sad) s.sn w
  have hap : sad.block ≠ sb := fun h => HS6.out.ws.apart HB6.out (by decide) (by rw [HsA.out, ← h]; rfl)
  have g3 : ∀ wx, Chg Non w6 wx → wx.cell? ⟨sb, 3, none⟩ = some (.slice (some sad) s.sn s.sc) := fun wx h => h.cell x3 id
  have g0 : ∀ wx, Chg Non w6 wx → wx.cell? (sad.add m0) = some (.int .i64 v0) := fun wx h => h.cell hsc0 id
  have gi : ∀ wx, Chg Non w6 wx → wx.cell? ⟨gI, 0, none⟩ = some (.int .i64 9) := fun wx h => h.cell i0 id
  go_wp2_with fail
  refine y_region _ Non [11] [] (fun _ _ _ _ => True) (fun _ _ _ _ => True) (fun _ _ v => ∃ x ok, v = .tuple #[.int .i64 x, .bool ok]) (fun _ => True) (by kernel_rfl) (okB_of_F _ (by kernel_rfl)) (fun _ h => h.elim) trivial (fun _ _ _ => trivial) ?_
  repeat (first | (refine y_plain (Non) (w6) rfl rfl (f := ?_) (a2 := ?_) (k2 := ?_) (wanted_none rfl) rfl rfl (fun w hC hG => ?_) ?_ ?_ ?_ rfl; rotate_left 3; (clear hG; first | (go_simp; done) | (go_simp; with_reducible rfl) | (simp [*, go_sem, ↓IntWalk.iteOmega]; done) | (simp [*, go_sem, ↓IntWalk.iteOmega]; with_reducible rfl)); (simp only [Act.put, List.setIfInBounds_toArray, List.set_cons_succ, List.set_cons_zero]; with_reducible exact rfl); ((conv => lhs; simp only [Nat.reduceAdd]); try with_reducible exact rfl)) | (refine y_pass (a2 := ?_) (k2 := ?_) (wanted_no rfl rfl rfl rfl) ?_ ?_ ?_ rfl; rotate_left 2; (simp only [Act.put, List.setIfInBounds_toArray, List.set_cons_succ, List.set_cons_zero]; with_reducible exact rfl); ((conv => lhs; simp only [Nat.reduceAdd]); try with_reducible exact rfl)) | (refine y_plain (Non) (w6) rfl rfl (f := ?_) (a2 := ?_) (k2 := ?_) (wanted_yes rfl rfl rfl) rfl rfl (fun w hC hG => ?_) ?_ ?_ ?_ rfl; rotate_left 3; (clear hG; first | (go_simp; done) | (go_simp; with_reducible rfl) | (simp [*, go_sem, ↓IntWalk.iteOmega]; done) | (simp [*, go_sem, ↓IntWalk.iteOmega]; with_reducible rfl)); (simp only [Act.put, List.setIfInBounds_toArray, List.set_cons_succ, List.set_cons_zero]; with_reducible exact rfl); ((conv => lhs; simp only [Nat.reduceAdd]); try with_reducible exact rfl)))
  refine y_major (Non) (w6) rfl rfl (a2 := ?_) (k2 := ?_) (wanted_none rfl) rfl (⟨_, 0, false, rfl⟩) (fun _ _ _ _ _ _ => trivial) (fun _ _ _ _ => trivial) (fun w hC hG hS => ?_) (fun v => ?_) ?_ (fun v hv => ?_) rfl
  rotate_left 3
  (simp only [Act.put, List.setIfInBounds_toArray, List.set_cons_succ, List.set_cons_zero]; with_reducible exact rfl)
  ((conv => lhs; simp only [Nat.reduceAdd]); try with_reducible exact rfl)
  rotate_left
  · refine settle_of (r2 := .ok (.enter 87 #[.int .i64 9, .int .i64 v0, .int .i64 v]) w) ?_ (settle_enter ((refDo_any w 9 v0 v (by omega)).mono ?_))
    · (first | (go_simp; done) | (go_simp; rfl))
    · rintro e w9 ⟨⟨x, ok, rfl⟩, rfl⟩
      exact ⟨_, rfl, ⟨x, ok, rfl⟩, Chg.refl _ _, trivial, trivial⟩
  obtain ⟨x, ok, rfl⟩ := hv
  repeat (first | (refine y_plain (Non) (w6) rfl rfl (f := ?_) (a2 := ?_) (k2 := ?_) (wanted_none rfl) rfl rfl (fun w hC hG => ?_) ?_ ?_ ?_ rfl; rotate_left 3; (clear hG; first | (go_simp; done) | (go_simp; with_reducible rfl) | (simp [*, go_sem, ↓IntWalk.iteOmega]; done) | (simp [*, go_sem, ↓IntWalk.iteOmega]; with_reducible rfl)); (simp only [Act.put, List.setIfInBounds_toArray, List.set_cons_succ, List.set_cons_zero]; with_reducible exact rfl); ((conv => lhs; simp only [Nat.reduceAdd]); try with_reducible exact rfl)) | (refine y_pass (a2 := ?_) (k2 := ?_) (wanted_no rfl rfl rfl rfl) ?_ ?_ ?_ rfl; rotate_left 2; (simp only [Act.put, List.setIfInBounds_toArray, List.set_cons_succ, List.set_cons_zero]; with_reducible exact rfl); ((conv => lhs; simp only [Nat.reduceAdd]); try with_reducible exact rfl)) | (refine y_plain (Non) (w6) rfl rfl (f := ?_) (a2 := ?_) (k2 := ?_) (wanted_yes rfl rfl rfl) rfl rfl (fun w hC hG => ?_) ?_ ?_ ?_ rfl; rotate_left 3; (clear hG; first | (go_simp; done) | (go_simp; with_reducible rfl) | (simp [*, go_sem, ↓IntWalk.iteOmega]; done) | (simp [*, go_sem, ↓IntWalk.iteOmega]; with_reducible rfl)); (simp only [Act.put, List.setIfInBounds_toArray, List.set_cons_succ, List.set_cons_zero]; with_reducible exact rfl); ((conv => lhs; simp only [Nat.reduceAdd]); try with_reducible exact rfl)))
  refine y_end Non w6 rfl rfl (fun w7 hC7 _ _ => ?_)
  have hb7 := HB6.out.non hC7
  have hr7 := HR6.out.non hC7
  have hc7 := HC6.out.non hC7
  have hbl7 := hb7.lt
  have x37 := g3 w7 hC7
  have t7 := g0 w7 hC7
  have tz7 : sad.block < w7.heap.size := by have := World.block_lt_of_cell? w7 _ t7; rw [block_add] at this; exact this
  have hws7 := HS6.out.ws.non hC7
  rw [HsA.out] at hws7
  obtain ⟨fz7, hws8, hS8⟩ := hws7.cellI rfl m4 (.int .i64 x)
  have HB7 := Lib.hid hb7
  have HR7 := Lib.hid hr7
  have HC7 := Lib.hid hc7
  have HC67 := Lib.hid hC7
  clear hb7 hr7 hc7 hC7 hws7 g3 g0 gi hsc hsc0 x3 i0 i1 x1
  cases ok with
  | false =>
    clear hws8 hS8
    go_wp2_with fail
    refine (refEnded_lit w7 0 20 0).mono ?_
    rintro e w8 ⟨rfl, hc8⟩
    have hr8 := (HR7.out).non hc8
    have hb8 := (HB7.out).non hc8
    have rl8 := hr8.lt
    obtain ⟨y0, y1, y2, y3, y4, y5, y6⟩ := cell7 hr8
    obtain ⟨z0, z1, z2, z3, z4, z5, z6⟩ : w8.frozen? ⟨w.heap.size, 0, none⟩ = false ∧ w8.frozen? ⟨w.heap.size, 1, none⟩ = false ∧ w8.frozen? ⟨w.heap.size, 2, none⟩ = false ∧ w8.frozen? ⟨w.heap.size, 3, none⟩ = false ∧ w8.frozen? ⟨w.heap.size, 4, none⟩ = false ∧ w8.frozen? ⟨w.heap.size, 5, none⟩ = false ∧ w8.frozen? ⟨w.heap.size, 6, none⟩ = false := ⟨hr8.frozen 0, hr8.frozen 1, hr8.frozen 2, hr8.frozen 3, hr8.frozen 4, hr8.frozen 5, hr8.frozen 6⟩
    obtain ⟨w11, hw11⟩ : ∃ w11, set7 w8 w.heap.size (.int .i64 3) (.int .i64 0) (.int .i64 0) (.int .i64 0) (.slice none 0 0) (.int .i64 20) (.int .i64 0) = w11 := ⟨_, rfl⟩
    have hS11 : Chg (fun b => b = w.heap.size) w8 w11 := hw11 ▸ set7_chg _ _ _ _ _ _ _ _ _
    have hB11 := set7_blk hr8 (.int .i64 3) (.int .i64 0) (.int .i64 0) (.int .i64 0) (.slice none 0 0) (.int .i64 20) (.int .i64 0)
    rw [hw11] at hB11
    obtain ⟨v0, v1, v2, v3, v4, v5, v6⟩ := cell7 hB11
    have hnr : w.heap.size ≠ sb := fun e => by omega
    have Hres : Hid (SpPost w j R sb deep s (.returned (.tuple #[.agg #[.int .i64 3, .int .i64 0, .int .i64 0, .int .i64 0, .slice none 0 0, .int .i64 20, .int .i64 0], .bool true])) w11) := by
      refine sp_ev (fi := fi) (t := false) (ev := endEv 0 20 0) Hs.out (hS11.mono (fun b e => .inr e)) hb8 hr8 (Nat.le_refl _) ?_ ((HC7.out).non hc8) (.inl rfl)
      have h9 := hb8.chg hS11 (fun e => hnr e.symm)
      unfold stC
      rw [← Hm.out.hf, ← Hm.out.hp] at h9
      exact h9
    have Hw11 := Lib.hid hw11
    clear hr8 hb8 hc8 hS11 hB11 hw11
    go_wp2_with fail
    rw [set7_name, Hw11.out]
    exact bodyPost_ret (v := .tuple #[.agg #[.int .i64 3, .int .i64 0, .int .i64 0, .int .i64 0, .slice none 0 0, .int .i64 20, .int .i64 0], .bool true]) (by simp [results, Try.results65, go_sem, v0, v1, v2, v3, v4, v5, v6]) rfl Hres.out
  | true =>
    obtain ⟨w8, hw8⟩ : ∃ w8, w7.setCell (sad.add m0) (.int .i64 x) = w8 := ⟨_, rfl⟩
    rw [hw8] at hws8 hS8
    have hrb : ∀ b, b = sad.block → RowB s.sA b := fun b e => ⟨sad, HsA.out, e.symm⟩
    have hbW0 := HB7.out.chg hS8 (fun e => hap e.symm)
    have hrW0 := HR7.out.chg hS8 (fun e => HS6.out.ws.apart HR6.out (by decide) (rowB_own (hrb _ e)))
    have hlW := (HS6.out.wl.non HC67.out).chg hS8 (fun b hb e => HS6.out.ap b (rowB_own (hrb _ e)) hb)
    have hCW : Chg (StB sb s) w w8 := HC7.out.of_non.trans2 hS8 (fun b e => .inl (.inr (.inl (hrb _ e))))
    have hwW := hws8.hi (k := m) (by omega)
    simp only [Nat.mul_one, show rkN.size = 1 from rfl] at hwW
    have k8 : w8.cell? ⟨sb, 3, none⟩ = some (.slice (some sad) s.sn s.sc) := hS8.cell x37 (fun e => hap e.symm)
    have k8l : sb < w8.heap.size := hbW0.lt
    rw [show List.take m ((iv s.S).set m0 (.int .i64 x)) = iv ((s.S.set m0 x).take m) by simp [iv, List.map_take, List.map_set]] at hwW
    clear hws8 hS8
    have hoW : ∀ b, RowB (some sad) b → RowB s.sA b ∨ w.heap.size ≤ b := fun b hb => .inl (by rw [HsA.out]; exact hb)
    have hbW0' := hbW0
    have k1 : w8.cell? ⟨sb, 1, none⟩ = some (.int .i64 pi) := hbW0.cell 1
    have f1 := hbW0.frozen 1
    have f3 := hbW0.frozen 3
    have kl := hbW0.lt
    obtain ⟨w10, hw10⟩ : ∃ w10, (w8.setCell ⟨sb, 3, none⟩ (.slice (some sad) (m) s.sc)).setCell ⟨sb, 1, none⟩ (.int .i64 ((pi : Int) + 1)) = w10 := ⟨_, rfl⟩
    have hS10 : Chg (fun b => b = sb) w8 w10 := hw10 ▸ ((Chg.refl _ _).set1 3 _).set1 1 _
    have hb10 := (hbW0.put 3 (.slice (some sad) (m) s.sc)).put 1 (.int .i64 ((pi : Int) + 1))
    rw [hw10] at hb10
    simp only [List.setIfInBounds_toArray, List.set_cons_succ, List.set_cons_zero] at hb10
    have hnr : w.heap.size ≠ sb := fun e => by omega
    have hr10 := hrW0.chg hS10 hnr
    have rl10 := hr10.lt
    obtain ⟨y0, y1, y2, y3, y4, y5, y6⟩ := cell7 hr10
    obtain ⟨z0, z1, z2, z3, z4, z5, z6⟩ : w10.frozen? ⟨w.heap.size, 0, none⟩ = false ∧ w10.frozen? ⟨w.heap.size, 1, none⟩ = false ∧ w10.frozen? ⟨w.heap.size, 2, none⟩ = false ∧ w10.frozen? ⟨w.heap.size, 3, none⟩ = false ∧ w10.frozen? ⟨w.heap.size, 4, none⟩ = false ∧ w10.frozen? ⟨w.heap.size, 5, none⟩ = false ∧ w10.frozen? ⟨w.heap.size, 6, none⟩ = false := ⟨hr10.frozen 0, hr10.frozen 1, hr10.frozen 2, hr10.frozen 3, hr10.frozen 4, hr10.frozen 5, hr10.frozen 6⟩
    obtain ⟨w11, hw11⟩ : ∃ w11, set7 w10 w.heap.size (.int .i64 0) (.int .i64 0) (.int .i64 0) (.int .i64 0) (.slice none 0 0) (.int .i64 0) (.int .i64 0) = w11 := ⟨_, rfl⟩
    have hS11 : Chg (fun b => b = w.heap.size) w10 w11 := hw11 ▸ set7_chg _ _ _ _ _ _ _ _ _
    have hB11 := set7_blk hr10 (.int .i64 0) (.int .i64 0) (.int .i64 0) (.int .i64 0) (.slice none 0 0) (.int .i64 0) (.int .i64 0)
    rw [hw11] at hB11
    obtain ⟨v0, v1, v2, v3, v4, v5, v6⟩ := cell7 hB11
    have hSS : Chg (fun b => b = sb ∨ b = w.heap.size) w8 w11 := (hS10.mono (fun b e => .inl e)).trans (hS11.mono (fun b e => .inr e))
    have Hres : Hid (SpPost w j R sb deep s (.returned (.tuple #[.agg #[.int .i64 0, .int .i64 0, .int .i64 0, .int .i64 0, .slice none 0 0, .int .i64 0, .int .i64 0], .bool false])) w11) := by
      refine sp_end Hm.out Hs.out hSS hbW0 hrW0 (Nat.le_refl _) (hb10.chg hS11 (fun e => hnr e.symm)) hwW hlW hCW hoW ?_ (q := q) ?_ ?_ ?_
      · have := Hs.out.sn; omega
      · exact Hq1.out
      · exact hq2
      · have := Hq3.out; have h8 := Hmm.out; rw [show ((s.sn : Int) - 2 + 1) = ((m : Nat) : Int) by omega] at this; exact this
    have Hw11 := Lib.hid hw11
    clear hbW0 hbW0' hrW0 hwW hlW hCW hoW hS10 hb10 hr10 hS11 hB11 hSS hw11
    go_wp2_with fail
    rw [set7_name, Hw11.out]
    exact bodyPost_ret (v := .tuple #[.agg #[.int .i64 0, .int .i64 0, .int .i64 0, .int .i64 0, .slice none 0 0, .int .i64 0, .int .i64 0], .bool false]) (by simp [results, Try.results65, go_sem, v0, v1, v2, v3, v4, v5, v6]) rfl Hres.out
set_option maxRecDepth 100000 in
set_option maxHeartbeats 16000000 in
theorem refStep_10 (w : World) (b : Nat) (j : Jb) (dA : Option Addr) (dc : Nat) (R : List DRow) (hk : KnAt w b j dA dc R) (sb : Nat) (s : Stt) (hbx : Blk w sb 95 (stC s)) (hst : StW w s) (fi pi : Nat) (f : Fn) (r : DRow) (hm : MayP j R s fi pi f r) (hwt : s.wt = false) (deep : Int) (N : Int) (hi : f.code[pi]? = some (10, N)) :
    Calls Try.prog 65 #[.pointer (some ⟨b, 0, none⟩), .pointer (some ⟨sb, 0, none⟩), .int .i64 deep] w (SpPost w j R sb deep s) := by
  obtain ⟨fad, dad, f2, r2, hKf⟩ := hk.get hm.fl
  have e1 : f2 = f := by have := hKf.gf; rw [hm.gf] at this; exact (Option.some.inj this).symm
  have e2 : r2 = r := by have := hKf.gr; rw [hm.gr] at this; exact (Option.some.inj this).symm
  subst e1
  subst e2
  obtain ⟨hpops, hs32, hd32, hnext⟩ := stepOk hm hKf.cl hKf.cn hk.ok.argsOk hi
  have hins := hKf.ok.ins _ (List.mem_of_getElem? hi)
  obtain ⟨ia, i2, hia, hi2, hi0, hi1⟩ := hKf.code.getN cellI_len (by decide) (k := pi) hm.pl
  rw [hi] at hi2
  obtain rfl := Option.some.inj hi2
  have hbL : Blk w sb 95 #[.int .i64 fi, .int .i64 pi, .int .i64 s.u, .slice s.sA s.sn s.sc, .slice s.lA s.ln s.lc, .int .i64 s.k, .bool false] := by
    have h9 := hbx
    unfold stC at h9
    rw [hm.hf, hm.hp, hwt] at h9
    exact h9
  obtain ⟨w1, hw1⟩ : ∃ w1, w.alloc (.cells #[.int .i64 0, .int .i64 0, .int .i64 0, .int .i64 0, .slice none 0 0, .int .i64 0, .int .i64 0] 100) = w1 := ⟨_, rfl⟩
  have hc1 : Chg Non w w1 := hw1 ▸ (Chg.refl _ _).alloc _
  have hr1 : Blk w1 w.heap.size 100 #[.int .i64 0, .int .i64 0, .int .i64 0, .int .i64 0, .slice none 0 0, .int .i64 0, .int .i64 0] := hw1 ▸ Blk.new w _ _
  have hb1 := hbL.non hc1
  have hk1 := hk.non hc1
  have hbl := hb1.lt
  have hkl := hk1.blk.lt
  have hfz : (fad.add (fi * 4)).block < w1.heap.size := World.block_lt_of_cell? w1 _ (hc1.cell hKf.c0 id)
  have hiz : (ia.add (pi * 2)).block < w1.heap.size := World.block_lt_of_cell? w1 _ (hc1.cell (hi0 _ rfl) id)
  have x0 : ∀ wx, Chg Non w1 wx → wx.cell? ⟨sb, 0, none⟩ = some (.int .i64 fi) := fun wx h => (hb1.non h).cell 0
  have x1 : ∀ wx, Chg Non w1 wx → wx.cell? ⟨sb, 1, none⟩ = some (.int .i64 pi) := fun wx h => (hb1.non h).cell 1
  have y0 : ∀ wx, Chg Non w1 wx → wx.cell? ⟨b, 0, none⟩ = some (.slice (some fad) j.fn j.fc) := fun wx h => by
    have h9 := (hk1.non h).blk.cell 0
    rw [show (knC j dA j.fn dc)[0]? = some (.slice j.fA j.fn j.fc) from rfl, hKf.fA] at h9
    exact h9
  have y3 : ∀ wx, Chg Non w1 wx → wx.cell? ⟨(fad.add (fi * 4)).block, (fad.add (fi * 4)).off + 3, none⟩ = some (.slice (some ia) f2.cn f2.cc) := fun wx h => by
    have h9 := (hc1.non h).cell hKf.c3 id
    rw [hia] at h9
    exact h9
  have i0 : ∀ wx, Chg Non w1 wx → wx.cell? (ia.add (pi * 2)) = some (.int .i64 10) := fun wx h => (hc1.non h).cell (hi0 _ rfl) id
  have i1 : ∀ wx, Chg Non w1 wx → wx.cell? ⟨(ia.add (pi * 2)).block, (ia.add (pi * 2)).off + 1, none⟩ = some (.int .i64 N) := fun wx h => (hc1.non h).cell (hi1 0 _ rfl) id
  have b1 : (0 : Int) ≤ (fi : Int) := by omega
  have b2 : (fi : Int) < j.fn := by have := hm.fl; omega
  have b3 : (0 : Int) ≤ (pi : Int) := by omega
  have b4 : (pi : Int) < f2.cn := by have := hm.pl; omega
  have b5 := hm.fl
  have b6 := hm.pl
  have hsb : sb < w.heap.size := hbL.lt
  have hjn : j.fn ≤ 32 := by have := hk.ok.nF.2; have := hk.job.fns.len; omega
  have hcn2 : f2.cn ≤ 256 := by have := hKf.ok.code; have := hKf.cn; omega
  have Hm := Lib.hid hm
  have HK := Lib.hid hk
  have HKf := Lib.hid hKf
  have Hs := Lib.hid hst
  have Hc1 := Lib.hid hc1
  have Hr1 := Lib.hid hr1
  have Hb1 := Lib.hid hb1
  have Hins := Lib.hid hins
  have Hnext := Lib.hid hnext
  have Hpops := Lib.hid hpops
  have Hd32 := Lib.hid hd32
  have Hwt := Lib.hid hwt
  have Hi := Lib.hid hi
  clear hm hk hKf hst hc1 hr1 hb1 hk1 hia hi hi0 hi1 hbx hins hnext hpops hd32 hwt hbL
  go_enter Try.func65, Try.ntmps65
  go_wp2_with fail
  refine y_region_tail 12 19 Non [] [18] (fun _ _ _ _ => True) (fun _ _ _ _ => True) (fun _ _ _ => True) (fun _ => True) (by kernel_rfl) (by kernel_rfl) (by kernel_rfl) (fun _ h => h.elim) trivial (fun _ _ _ => trivial) ?_
  repeat (first | (refine y_plain (Non) (w1) rfl rfl (f := ?_) (a2 := ?_) (k2 := ?_) (wanted_none rfl) rfl rfl (fun w hC hG => ?_) ?_ ?_ ?_ rfl; rotate_left 3; (clear hG; first | (go_simp; done) | (go_simp; with_reducible rfl) | (simp [*, go_sem, ↓IntWalk.iteOmega]; done) | (simp [*, go_sem, ↓IntWalk.iteOmega]; with_reducible rfl)); (simp only [Act.put, List.setIfInBounds_toArray, List.set_cons_succ, List.set_cons_zero]; with_reducible exact rfl); ((conv => lhs; simp only [Nat.reduceAdd]); try with_reducible exact rfl)) | (refine y_pass (a2 := ?_) (k2 := ?_) (wanted_no rfl rfl rfl rfl) ?_ ?_ ?_ rfl; rotate_left 2; (simp only [Act.put, List.setIfInBounds_toArray, List.set_cons_succ, List.set_cons_zero]; with_reducible exact rfl); ((conv => lhs; simp only [Nat.reduceAdd]); try with_reducible exact rfl)) | (refine y_plain (Non) (w1) rfl rfl (f := ?_) (a2 := ?_) (k2 := ?_) (wanted_yes rfl rfl rfl) rfl rfl (fun w hC hG => ?_) ?_ ?_ ?_ rfl; rotate_left 3; (clear hG; first | (go_simp; done) | (go_simp; with_reducible rfl) | (simp [*, go_sem, ↓IntWalk.iteOmega]; done) | (simp [*, go_sem, ↓IntWalk.iteOmega]; with_reducible rfl)); (simp only [Act.put, List.setIfInBounds_toArray, List.set_cons_succ, List.set_cons_zero]; with_reducible exact rfl); ((conv => lhs; simp only [Nat.reduceAdd]); try with_reducible exact rfl)))
  refine y_minor (Non) (w1) rfl rfl (ob := .cells #[.int .i64 0, .int .i64 0] 116) (kd := none) (a2 := ?_) (k2 := ?_) (wanted_none rfl) rfl rfl (fun w hC hG => ?_) (fun g => ?_) ?_ (fun g => ?_) rfl
  rotate_left 2
  · clear hG; first | (go_simp; done) | (go_simp; rfl)
  (simp only [Act.put, mkv, List.setIfInBounds_toArray, List.set_cons_succ, List.set_cons_zero]; with_reducible exact rfl)
  ((conv => lhs; simp only [Nat.reduceAdd]); try with_reducible exact rfl)
  refine y_tail Non w1 rfl rfl rfl (fun w5 hC5 _ hG => ?_)
  simp only [List.drop_succ_cons, List.drop_zero]
  have hI5 : Blk w5 g 116 #[.int .i64 0, .int .i64 0] := (hG 18).2
  have hgI : w1.heap.size ≤ g := (hG 18).1
  clear hG x0 x1 y0 y3 i0 i1
  refine wpList_store_all rfl (.tmp 8) (.tmp 31) rfl (cs := #[.int .i64 10, .int .i64 N]) rfl rfl hI5 rfl (by kernel_rfl) (by simp [Value.oneCell']) ?_
  intro w6 hI6 hS6
  obtain ⟨gI, hge⟩ : ∃ gI, gI = g := ⟨_, rfl⟩
  subst hge
  have hC6 : Chg Non w1 w6 := hC5.trans2 hS6 (fun b e => .inr (by have e : b = gI := e; omega))
  have hb6 := Hb1.out.non hC6
  have hr6 := Hr1.out.non hC6
  have hc6 := Hc1.out.non hC6
  have hs6 := Hs.out.non hc6
  have bl6 := hb6.lt
  have il6 := hI6.lt
  have rl6 := hr6.lt
  have i0 : w6.cell? ⟨gI, 0, none⟩ = some (.int .i64 10) := hI6.cell 0
  have i1 : w6.cell? ⟨gI, 1, none⟩ = some (.int .i64 N) := hI6.cell 1
  have x1 : w6.cell? ⟨sb, 1, none⟩ = some (.int .i64 pi) := hb6.cell 1
  have x3 : w6.cell? ⟨sb, 3, none⟩ = some (.slice s.sA s.sn s.sc) := hb6.cell 3
  have hpp : IntKind.i64.wrap ((pi : Int) + 1) = (pi : Int) + 1 := by rw [IntKind.wrap_i64]; omega
  have HB6 := Lib.hid hb6
  have HR6 := Lib.hid hr6
  have HC6 := Lib.hid hc6
  have HS6 := Lib.hid hs6
  have HI6 := Lib.hid hI6
  have hrz : w.heap.size < w1.heap.size := Hr1.out.lt
  have HgI : Hid (w.heap.size < gI ∧ sb < gI) := by show _ ∧ _; omega
  clear hI5 hS6 hC5 hb6 hr6 hc6 hs6 hI6 hgI hC6 hw1 hbl hkl hfz hiz hrz
  have hz0 : 0 < s.sn := by have h9 := Hpops.out; have h8 : popsP j.F (10, N) = 2 := (by simp [popsP]); omega
  obtain ⟨m, hmm⟩ : ∃ m, s.sn = m + 1 := ⟨s.sn - 1, by omega⟩
  obtain ⟨sad, v, hsA, hSv, hsc⟩ := (HS6.out.ws.rds).getI (k := m) (by omega)
  have e1 : (s.sn : Int) - 1 = (m : Int) := by omega
  have e2 : IntKind.i64.wrap ((s.sn : Int) - 1) = (m : Int) := by rw [IntKind.wrap_i64]; omega
  have hsz := World.block_lt_of_cell? w6 _ hsc
  have m1 : (m : Int) < s.sn := by omega
  have m2 : m < s.sn := by omega
  have Hmm := Lib.hid hmm
  have HsA := Lib.hid hsA
  rw [hsA] at x3
  have hz1 : (0 : Int) < s.sn := by omega
  clear hmm hsA
  obtain ⟨m0, hm0⟩ : ∃ m0, m = m0 + 1 := ⟨m - 1, by have h9 := Hpops.out; have h8 : popsP j.F (10, N) = 2 := (by simp [popsP]); have := Hmm.out; omega⟩
  obtain ⟨sad2, v0, hsA2, hSv0, hsc0⟩ := (HS6.out.ws.rds).getI (k := m0) (by omega)
  rw [HsA.out] at hsA2
  obtain rfl := Option.some.inj hsA2
  have e3 : (s.sn : Int) - 2 = (m0 : Int) := by omega
  have e4 : IntKind.i64.wrap ((s.sn : Int) - 2) = (m0 : Int) := by rw [IntKind.wrap_i64]; omega
  have m3 : (m0 : Int) < s.sn := by omega
  have m4 : m0 < s.sn := by omega
  have m5 : (0 : Int) ≤ (m0 : Int) := by omega
  have m6 : (0 : Int) ≤ (m : Int) := by omega
  have e5 : IntKind.i64.wrap (m0 : Int) = (m0 : Int) := by rw [IntKind.wrap_i64]; omega
  have e6 : IntKind.i64.wrap (m : Int) = (m : Int) := by rw [IntKind.wrap_i64]; omega
  have Hm0 := Lib.hid hm0
  clear hm0 hsA2
  have hnx : ∃ q : Nat, (pi : Int) + 1 = q ∧ q < f2.cn ∧ r2.D[q]? = some ((s.sn : Int) - popsP j.F (10, N) + pushP (10, N)) := Hnext.out _ (by simp [nextP])
  have hpu : popsP j.F (10, N) = 2 := by simp [popsP]
  have hph : pushP (10, N) = 1 := by simp [pushP]
  obtain ⟨q, hq1, hq2, hq3⟩ := hnx
  rw [hpu, hph] at hq3
  have Hq1 := Lib.hid hq1
  have Hq3 := Lib.hid hq3
  clear hq1 hq3 hpu hph
  have Hcap : Hid (s.sn ≤ s.sc) := by
    obtain ⟨A0, c0, hac, hcn, _, _⟩ := HS6.out.ws.open_
    injection hac with _ _ e3
    show _ ≤ _
    omega
  have q6 := fun w => run_slice_hi (P := Try.prog) Try.underlying27 (by kernel_rfl) (kl := .i64) (i := (m : Int)) (k := m) (c := s.sc) rfl (by have h8 := Hcap.out; omega) (some sad) s.sn w
  have hap : sad.block ≠ sb := fun h => HS6.out.ws.apart HB6.out (by decide) (by rw [HsA.out, ← h]; rfl)
  have g3 : ∀ wx, Chg Non w6 wx → wx.cell? ⟨sb, 3, none⟩ = some (.slice (some sad) s.sn s.sc) := fun wx h => h.cell x3 id
  have g0 : ∀ wx, Chg Non w6 wx → wx.cell? (sad.add m0) = some (.int .i64 v0) := fun wx h => h.cell hsc0 id
  have gi : ∀ wx, Chg Non w6 wx → wx.cell? ⟨gI, 0, none⟩ = some (.int .i64 10) := fun wx h => h.cell i0 id
  go_wp2_with fail
  refine y_region _ Non [11] [] (fun _ _ _ _ => True) (fun _ _ _ _ => True) (fun _ _ v => ∃ x ok, v = .tuple #[.int .i64 x, .bool ok]) (fun _ => True) (by kernel_rfl) (okB_of_F _ (by kernel_rfl)) (fun _ h => h.elim) trivial (fun _ _ _ => trivial) ?_
  repeat (first | (refine y_plain (Non) (w6) rfl rfl (f := ?_) (a2 := ?_) (k2 := ?_) (wanted_none rfl) rfl rfl (fun w hC hG => ?_) ?_ ?_ ?_ rfl; rotate_left 3; (clear hG; first | (go_simp; done) | (go_simp; with_reducible rfl) | (simp [*, go_sem, ↓IntWalk.iteOmega]; done) | (simp [*, go_sem, ↓IntWalk.iteOmega]; with_reducible rfl)); (simp only [Act.put, List.setIfInBounds_toArray, List.set_cons_succ, List.set_cons_zero]; with_reducible exact rfl); ((conv => lhs; simp only [Nat.reduceAdd]); try with_reducible exact rfl)) | (refine y_pass (a2 := ?_) (k2 := ?_) (wanted_no rfl rfl rfl rfl) ?_ ?_ ?_ rfl; rotate_left 2; (simp only [Act.put, List.setIfInBounds_toArray, List.set_cons_succ, List.set_cons_zero]; with_reducible exact rfl); ((conv => lhs; simp only [Nat.reduceAdd]); try with_reducible exact rfl)) | (refine y_plain (Non) (w6) rfl rfl (f := ?_) (a2 := ?_) (k2 := ?_) (wanted_yes rfl rfl rfl) rfl rfl (fun w hC hG => ?_) ?_ ?_ ?_ rfl; rotate_left 3; (clear hG; first | (go_simp; done) | (go_simp; with_reducible rfl) | (simp [*, go_sem, ↓IntWalk.iteOmega]; done) | (simp [*, go_sem, ↓IntWalk.iteOmega]; with_reducible rfl)); (simp only [Act.put, List.setIfInBounds_toArray, List.set_cons_succ, List.set_cons_zero]; with_reducible exact rfl); ((conv => lhs; simp only [Nat.reduceAdd]); try with_reducible exact rfl)))
  refine y_major (Non) (w6) rfl rfl (a2 := ?_) (k2 := ?_) (wanted_none rfl) rfl (⟨_, 0, false, rfl⟩) (fun _ _ _ _ _ _ => trivial) (fun _ _ _ _ => trivial) (fun w hC hG hS => ?_) (fun v => ?_) ?_ (fun v hv => ?_) rfl
  rotate_left 3
  (simp only [Act.put, List.setIfInBounds_toArray, List.set_cons_succ, List.set_cons_zero]; with_reducible exact rfl)
  ((conv => lhs; simp only [Nat.reduceAdd]); try with_reducible exact rfl)
  rotate_left
  · refine settle_of (r2 := .ok (.enter 87 #[.int .i64 10, .int .i64 v0, .int .i64 v]) w) ?_ (settle_enter ((refDo_any w 10 v0 v (by omega)).mono ?_))
    · (first | (go_simp; done) | (go_simp; rfl))
    · rintro e w9 ⟨⟨x, ok, rfl⟩, rfl⟩
      exact ⟨_, rfl, ⟨x, ok, rfl⟩, Chg.refl _ _, trivial, trivial⟩
  obtain ⟨x, ok, rfl⟩ := hv
  repeat (first | (refine y_plain (Non) (w6) rfl rfl (f := ?_) (a2 := ?_) (k2 := ?_) (wanted_none rfl) rfl rfl (fun w hC hG => ?_) ?_ ?_ ?_ rfl; rotate_left 3; (clear hG; first | (go_simp; done) | (go_simp; with_reducible rfl) | (simp [*, go_sem, ↓IntWalk.iteOmega]; done) | (simp [*, go_sem, ↓IntWalk.iteOmega]; with_reducible rfl)); (simp only [Act.put, List.setIfInBounds_toArray, List.set_cons_succ, List.set_cons_zero]; with_reducible exact rfl); ((conv => lhs; simp only [Nat.reduceAdd]); try with_reducible exact rfl)) | (refine y_pass (a2 := ?_) (k2 := ?_) (wanted_no rfl rfl rfl rfl) ?_ ?_ ?_ rfl; rotate_left 2; (simp only [Act.put, List.setIfInBounds_toArray, List.set_cons_succ, List.set_cons_zero]; with_reducible exact rfl); ((conv => lhs; simp only [Nat.reduceAdd]); try with_reducible exact rfl)) | (refine y_plain (Non) (w6) rfl rfl (f := ?_) (a2 := ?_) (k2 := ?_) (wanted_yes rfl rfl rfl) rfl rfl (fun w hC hG => ?_) ?_ ?_ ?_ rfl; rotate_left 3; (clear hG; first | (go_simp; done) | (go_simp; with_reducible rfl) | (simp [*, go_sem, ↓IntWalk.iteOmega]; done) | (simp [*, go_sem, ↓IntWalk.iteOmega]; with_reducible rfl)); (simp only [Act.put, List.setIfInBounds_toArray, List.set_cons_succ, List.set_cons_zero]; with_reducible exact rfl); ((conv => lhs; simp only [Nat.reduceAdd]); try with_reducible exact rfl)))
  refine y_end Non w6 rfl rfl (fun w7 hC7 _ _ => ?_)
  have hb7 := HB6.out.non hC7
  have hr7 := HR6.out.non hC7
  have hc7 := HC6.out.non hC7
  have hbl7 := hb7.lt
  have x37 := g3 w7 hC7
  have t7 := g0 w7 hC7
  have tz7 : sad.block < w7.heap.size := by have := World.block_lt_of_cell? w7 _ t7; rw [block_add] at this; exact this
  have hws7 := HS6.out.ws.non hC7
  rw [HsA.out] at hws7
  obtain ⟨fz7, hws8, hS8⟩ := hws7.cellI rfl m4 (.int .i64 x)
  have HB7 := Lib.hid hb7
  have HR7 := Lib.hid hr7
  have HC7 := Lib.hid hc7
  have HC67 := Lib.hid hC7
  clear hb7 hr7 hc7 hC7 hws7 g3 g0 gi hsc hsc0 x3 i0 i1 x1
  cases ok with
  | false =>
    clear hws8 hS8
    go_wp2_with fail
    refine (refEnded_lit w7 0 20 0).mono ?_
    rintro e w8 ⟨rfl, hc8⟩
    have hr8 := (HR7.out).non hc8
    have hb8 := (HB7.out).non hc8
    have rl8 := hr8.lt
    obtain ⟨y0, y1, y2, y3, y4, y5, y6⟩ := cell7 hr8
    obtain ⟨z0, z1, z2, z3, z4, z5, z6⟩ : w8.frozen? ⟨w.heap.size, 0, none⟩ = false ∧ w8.frozen? ⟨w.heap.size, 1, none⟩ = false ∧ w8.frozen? ⟨w.heap.size, 2, none⟩ = false ∧ w8.frozen? ⟨w.heap.size, 3, none⟩ = false ∧ w8.frozen? ⟨w.heap.size, 4, none⟩ = false ∧ w8.frozen? ⟨w.heap.size, 5, none⟩ = false ∧ w8.frozen? ⟨w.heap.size, 6, none⟩ = false := ⟨hr8.frozen 0, hr8.frozen 1, hr8.frozen 2, hr8.frozen 3, hr8.frozen 4, hr8.frozen 5, hr8.frozen 6⟩
    obtain ⟨w11, hw11⟩ : ∃ w11, set7 w8 w.heap.size (.int .i64 3) (.int .i64 0) (.int .i64 0) (.int .i64 0) (.slice none 0 0) (.int .i64 20) (.int .i64 0) = w11 := ⟨_, rfl⟩
    have hS11 : Chg (fun b => b = w.heap.size) w8 w11 := hw11 ▸ set7_chg _ _ _ _ _ _ _ _ _
    have hB11 := set7_blk hr8 (.int .i64 3) (.int .i64 0) (.int .i64 0) (.int .i64 0) (.slice none 0 0) (.int .i64 20) (.int .i64 0)
    rw [hw11] at hB11
    obtain ⟨v0, v1, v2, v3, v4, v5, v6⟩ := cell7 hB11
    have hnr : w.heap.size ≠ sb := fun e => by omega
    have Hres : Hid (SpPost w j R sb deep s (.returned (.tuple #[.agg #[.int .i64 3, .int .i64 0, .int .i64 0, .int .i64 0, .slice none 0 0, .int .i64 20, .int .i64 0], .bool true])) w11) := by
      refine sp_ev (fi := fi) (t := false) (ev := endEv 0 20 0) Hs.out (hS11.mono (fun b e => .inr e)) hb8 hr8 (Nat.le_refl _) ?_ ((HC7.out).non hc8) (.inl rfl)
      have h9 := hb8.chg hS11 (fun e => hnr e.symm)
      unfold stC
      rw [← Hm.out.hf, ← Hm.out.hp] at h9
      exact h9
    have Hw11 := Lib.hid hw11
    clear hr8 hb8 hc8 hS11 hB11 hw11
    go_wp2_with fail
    rw [set7_name, Hw11.out]
    exact bodyPost_ret (v := .tuple #[.agg #[.int .i64 3, .int .i64 0, .int .i64 0, .int .i64 0, .slice none 0 0, .int .i64 20, .int .i64 0], .bool true]) (by simp [results, Try.results65, go_sem, v0, v1, v2, v3, v4, v5, v6]) rfl Hres.out
  | true =>
    obtain ⟨w8, hw8⟩ : ∃ w8, w7.setCell (sad.add m0) (.int .i64 x) = w8 := ⟨_, rfl⟩
    rw [hw8] at hws8 hS8
    have hrb : ∀ b, b = sad.block → RowB s.sA b := fun b e => ⟨sad, HsA.out, e.symm⟩
    have hbW0 := HB7.out.chg hS8 (fun e => hap e.symm)
    have hrW0 := HR7.out.chg hS8 (fun e => HS6.out.ws.apart HR6.out (by decide) (rowB_own (hrb _ e)))
    have hlW := (HS6.out.wl.non HC67.out).chg hS8 (fun b hb e => HS6.out.ap b (rowB_own (hrb _ e)) hb)
    have hCW : Chg (StB sb s) w w8 := HC7.out.of_non.trans2 hS8 (fun b e => .inl (.inr (.inl (hrb _ e))))
    have hwW := hws8.hi (k := m) (by omega)
    simp only [Nat.mul_one, show rkN.size = 1 from rfl] at hwW
    have k8 : w8.cell? ⟨sb, 3, none⟩ = some (.slice (some sad) s.sn s.sc) := hS8.cell x37 (fun e => hap e.symm)
    have k8l : sb < w8.heap.size := hbW0.lt
    rw [show List.take m ((iv s.S).set m0 (.int .i64 x)) = iv ((s.S.set m0 x).take m) by simp [iv, List.map_take, List.map_set]] at hwW
    clear hws8 hS8
    have hoW : ∀ b, RowB (some sad) b → RowB s.sA b ∨ w.heap.size ≤ b := fun b hb => .inl (by rw [HsA.out]; exact hb)
    have hbW0' := hbW0
    have k1 : w8.cell? ⟨sb, 1, none⟩ = some (.int .i64 pi) := hbW0.cell 1
    have f1 := hbW0.frozen 1
    have f3 := hbW0.frozen 3
    have kl := hbW0.lt
    obtain ⟨w10, hw10⟩ : ∃ w10, (w8.setCell ⟨sb, 3, none⟩ (.slice (some sad) (m) s.sc)).setCell ⟨sb, 1, none⟩ (.int .i64 ((pi : Int) + 1)) = w10 := ⟨_, rfl⟩
    have hS10 : Chg (fun b => b = sb) w8 w10 := hw10 ▸ ((Chg.refl _ _).set1 3 _).set1 1 _
    have hb10 := (hbW0.put 3 (.slice (some sad) (m) s.sc)).put 1 (.int .i64 ((pi : Int) + 1))
    rw [hw10] at hb10
    simp only [List.setIfInBounds_toArray, List.set_cons_succ, List.set_cons_zero] at hb10
    have hnr : w.heap.size ≠ sb := fun e => by omega
    have hr10 := hrW0.chg hS10 hnr
    have rl10 := hr10.lt
    obtain ⟨y0, y1, y2, y3, y4, y5, y6⟩ := cell7 hr10
    obtain ⟨z0, z1, z2, z3, z4, z5, z6⟩ : w10.frozen? ⟨w.heap.size, 0, none⟩ = false ∧ w10.frozen? ⟨w.heap.size, 1, none⟩ = false ∧ w10.frozen? ⟨w.heap.size, 2, none⟩ = false ∧ w10.frozen? ⟨w.heap.size, 3, none⟩ = false ∧ w10.frozen? ⟨w.heap.size, 4, none⟩ = false ∧ w10.frozen? ⟨w.heap.size, 5, none⟩ = false ∧ w10.frozen? ⟨w.heap.size, 6, none⟩ = false := ⟨hr10.frozen 0, hr10.frozen 1, hr10.frozen 2, hr10.frozen 3, hr10.frozen 4, hr10.frozen 5, hr10.frozen 6⟩
    obtain ⟨w11, hw11⟩ : ∃ w11, set7 w10 w.heap.size (.int .i64 0) (.int .i64 0) (.int .i64 0) (.int .i64 0) (.slice none 0 0) (.int .i64 0) (.int .i64 0) = w11 := ⟨_, rfl⟩
    have hS11 : Chg (fun b => b = w.heap.size) w10 w11 := hw11 ▸ set7_chg _ _ _ _ _ _ _ _ _
    have hB11 := set7_blk hr10 (.int .i64 0) (.int .i64 0) (.int .i64 0) (.int .i64 0) (.slice none 0 0) (.int .i64 0) (.int .i64 0)
    rw [hw11] at hB11
    obtain ⟨v0, v1, v2, v3, v4, v5, v6⟩ := cell7 hB11
    have hSS : Chg (fun b => b = sb ∨ b = w.heap.size) w8 w11 := (hS10.mono (fun b e => .inl e)).trans (hS11.mono (fun b e => .inr e))
    have Hres : Hid (SpPost w j R sb deep s (.returned (.tuple #[.agg #[.int .i64 0, .int .i64 0, .int .i64 0, .int .i64 0, .slice none 0 0, .int .i64 0, .int .i64 0], .bool false])) w11) := by
      refine sp_end Hm.out Hs.out hSS hbW0 hrW0 (Nat.le_refl _) (hb10.chg hS11 (fun e => hnr e.symm)) hwW hlW hCW hoW ?_ (q := q) ?_ ?_ ?_
      · have := Hs.out.sn; omega
      · exact Hq1.out
      · exact hq2
      · have := Hq3.out; have h8 := Hmm.out; rw [show ((s.sn : Int) - 2 + 1) = ((m : Nat) : Int) by omega] at this; exact this
    have Hw11 := Lib.hid hw11
    clear hbW0 hbW0' hrW0 hwW hlW hCW hoW hS10 hb10 hr10 hS11 hB11 hSS hw11
    go_wp2_with fail
    rw [set7_name, Hw11.out]
    exact bodyPost_ret (v := .tuple #[.agg #[.int .i64 0, .int .i64 0, .int .i64 0, .int .i64 0, .slice none 0 0, .int .i64 0, .int .i64 0], .bool false]) (by simp [results, Try.results65, go_sem, v0, v1, v2, v3, v4, v5, v6]) rfl Hres.out
end Go.Proofs.Yteinbdifncdaiaa
