/-
  gleanerref4.(*Known).step: spawn.
-/
import Derived.Test.YteinbdifncdaiaaTdDeepStk
namespace Go.Proofs.Yteinbdifncdaiaa
open Go.RowKit
set_option linter.unusedVariables false
set_option linter.unusedSimpArgs false

set_option maxRecDepth 100000 in
set_option maxHeartbeats 16000000 in
theorem refStep_16 (w : World) (b : Nat) (j : Jb) (dA : Option Addr) (dc : Nat) (R : List DRow) (hk : KnAt w b j dA dc R) (sb : Nat) (s : Stt) (hbx : Blk w sb 95 (stC s)) (hst : StW w s) (fi pi : Nat) (f : Fn) (r : DRow) (hm : MayP j R s fi pi f r) (hwt : s.wt = false) (deep : Int) (N : Int) (hi : f.code[pi]? = some (16, N)) :
    Calls Try.prog 65 #[.pointer (some ⟨b, 0, none⟩), .pointer (some ⟨sb, 0, none⟩), .int .i64 deep] w (SpPost w j R sb deep s) := by
  obtain ⟨fad, dad, f2, r2, hKf⟩ := hk.get hm.fl
  have e1 : f2 = f := by have := hKf.gf; rw [hm.gf] at this; exact (Option.some.inj this).symm
  have e2 : r2 = r := by have := hKf.gr; rw [hm.gr] at this; exact (Option.some.inj this).symm
  subst e1
  subst e2
  obtain ⟨hpops, hs32, hd32, hnext⟩ := stepOk hm hKf.cl hKf.cn hk.ok.argsOk hi
  have hins := hKf.ok.ins _ (List.mem_of_getElem? hi)
  obtain ⟨ia, i2, hia, hi2, hi0, hi1⟩ := hKf.code.getN cellI_len (by decide) (k := pi) hm.pl
  rw [hi] at hi2
  obtain rfl := Option.some.inj hi2
  have hbL : Blk w sb 95 #[.int .i64 fi, .int .i64 pi, .int .i64 s.u, .slice s.sA s.sn s.sc, .slice s.lA s.ln s.lc, .int .i64 s.k, .bool false] := by
    have h9 := hbx
    unfold stC at h9
    rw [hm.hf, hm.hp, hwt] at h9
    exact h9
  obtain ⟨w1, hw1⟩ : ∃ w1, w.alloc (.cells #[.int .i64 0, .int .i64 0, .int .i64 0, .int .i64 0, .slice none 0 0, .int .i64 0, .int .i64 0] 100) = w1 := ⟨_, rfl⟩
  have hc1 : Chg Non w w1 := hw1 ▸ (Chg.refl _ _).alloc _
  have hr1 : Blk w1 w.heap.size 100 #[.int .i64 0, .int .i64 0, .int .i64 0, .int .i64 0, .slice none 0 0, .int .i64 0, .int .i64 0] := hw1 ▸ Blk.new w _ _
  have hb1 := hbL.non hc1
  have hk1 := hk.non hc1
  have hbl := hb1.lt
  have hkl := hk1.blk.lt
  have hfz : (fad.add (fi * 4)).block < w1.heap.size := World.block_lt_of_cell? w1 _ (hc1.cell hKf.c0 id)
  have hiz : (ia.add (pi * 2)).block < w1.heap.size := World.block_lt_of_cell? w1 _ (hc1.cell (hi0 _ rfl) id)
  have x0 : ∀ wx, Chg Non w1 wx → wx.cell? ⟨sb, 0, none⟩ = some (.int .i64 fi) := fun wx h => (hb1.non h).cell 0
  have x1 : ∀ wx, Chg Non w1 wx → wx.cell? ⟨sb, 1, none⟩ = some (.int .i64 pi) := fun wx h => (hb1.non h).cell 1
  have y0 : ∀ wx, Chg Non w1 wx → wx.cell? ⟨b, 0, none⟩ = some (.slice (some fad) j.fn j.fc) := fun wx h => by
    have h9 := (hk1.non h).blk.cell 0
    rw [show (knC j dA j.fn dc)[0]? = some (.slice j.fA j.fn j.fc) from rfl, hKf.fA] at h9
    exact h9
  have y3 : ∀ wx, Chg Non w1 wx → wx.cell? ⟨(fad.add (fi * 4)).block, (fad.add (fi * 4)).off + 3, none⟩ = some (.slice (some ia) f2.cn f2.cc) := fun wx h => by
    have h9 := (hc1.non h).cell hKf.c3 id
    rw [hia] at h9
    exact h9
  have i0 : ∀ wx, Chg Non w1 wx → wx.cell? (ia.add (pi * 2)) = some (.int .i64 16) := fun wx h => (hc1.non h).cell (hi0 _ rfl) id
  have i1 : ∀ wx, Chg Non w1 wx → wx.cell? ⟨(ia.add (pi * 2)).block, (ia.add (pi * 2)).off + 1, none⟩ = some (.int .i64 N) := fun wx h => (hc1.non h).cell (hi1 0 _ rfl) id
  have b1 : (0 : Int) ≤ (fi : Int) := by omega
  have b2 : (fi : Int) < j.fn := by have := hm.fl; omega
  have b3 : (0 : Int) ≤ (pi : Int) := by omega
  have b4 : (pi : Int) < f2.cn := by have := hm.pl; omega
  have b5 := hm.fl
  have b6 := hm.pl
  have hsb : sb < w.heap.size := hbL.lt
  have hjn : j.fn ≤ 32 := by have := hk.ok.nF.2; have := hk.job.fns.len; omega
  have hcn2 : f2.cn ≤ 256 := by have := hKf.ok.code; have := hKf.cn; omega
  have Hm := Lib.hid hm
  have HK := Lib.hid hk
  have HKf := Lib.hid hKf
  have Hs := Lib.hid hst
  have Hc1 := Lib.hid hc1
  have Hr1 := Lib.hid hr1
  have Hb1 := Lib.hid hb1
  have Hins := Lib.hid hins
  have Hnext := Lib.hid hnext
  have Hpops := Lib.hid hpops
  have Hd32 := Lib.hid hd32
  have Hwt := Lib.hid hwt
  have Hi := Lib.hid hi
  clear hm hk hKf hst hc1 hr1 hb1 hk1 hia hi hi0 hi1 hbx hins hnext hpops hd32 hwt hbL
  go_enter Try.func65, Try.ntmps65
  go_wp2_with fail
  refine y_region_tail 12 19 Non [] [18] (fun _ _ _ _ => True) (fun _ _ _ _ => True) (fun _ _ _ => True) (fun _ => True) (by kernel_rfl) (by kernel_rfl) (by kernel_rfl) (fun _ h => h.elim) trivial (fun _ _ _ => trivial) ?_
  repeat (first | (refine y_plain (Non) (w1) rfl rfl (f := ?_) (a2 := ?_) (k2 := ?_) (wanted_none rfl) rfl rfl (fun w hC hG => ?_) ?_ ?_ ?_ rfl; rotate_left 3; (clear hG; first | (go_simp; done) | (go_simp; with_reducible rfl) | (simp [*, go_sem, ↓IntWalk.iteOmega]; done) | (simp [*, go_sem, ↓IntWalk.iteOmega]; with_reducible rfl)); (simp only [Act.put, List.setIfInBounds_toArray, List.set_cons_succ, List.set_cons_zero]; with_reducible exact rfl); ((conv => lhs; simp only [Nat.reduceAdd]); try with_reducible exact rfl)) | (refine y_pass (a2 := ?_) (k2 := ?_) (wanted_no rfl rfl rfl rfl) ?_ ?_ ?_ rfl; rotate_left 2; (simp only [Act.put, List.setIfInBounds_toArray, List.set_cons_succ, List.set_cons_zero]; with_reducible exact rfl); ((conv => lhs; simp only [Nat.reduceAdd]); try with_reducible exact rfl)) | (refine y_plain (Non) (w1) rfl rfl (f := ?_) (a2 := ?_) (k2 := ?_) (wanted_yes rfl rfl rfl) rfl rfl (fun w hC hG => ?_) ?_ ?_ ?_ rfl; rotate_left 3; (clear hG; first | (go_simp; done) | (go_simp; with_reducible rfl) | (simp [*, go_sem, ↓IntWalk.iteOmega]; done) | (simp [*, go_sem, ↓IntWalk.iteOmega]; with_reducible rfl)); (simp only [Act.put, List.setIfInBounds_toArray, List.set_cons_succ, List.set_cons_zero]; with_reducible exact rfl); ((conv => lhs; simp only [Nat.reduceAdd]); try with_reducible exact rfl)))
  refine y_minor (Non) (w1) rfl rfl (ob := .cells #[.int .i64 0, .int .i64 0] 116) (kd := none) (a2 := ?_) (k2 := ?_) (wanted_none rfl) rfl rfl (fun w hC hG => ?_) (fun g => ?_) ?_ (fun g => ?_) rfl
  rotate_left 2
  · clear hG; first | (go_simp; done) | (go_simp; rfl)
  (simp only [Act.put, mkv, List.setIfInBounds_toArray, List.set_cons_succ, List.set_cons_zero]; with_reducible exact rfl)
  ((conv => lhs; simp only [Nat.reduceAdd]); try with_reducible exact rfl)
  refine y_tail Non w1 rfl rfl rfl (fun w5 hC5 _ hG => ?_)
  simp only [List.drop_succ_cons, List.drop_zero]
  have hI5 : Blk w5 g 116 #[.int .i64 0, .int .i64 0] := (hG 18).2
  have hgI : w1.heap.size ≤ g := (hG 18).1
  clear hG x0 x1 y0 y3 i0 i1
  refine wpList_store_all rfl (.tmp 8) (.tmp 31) rfl (cs := #[.int .i64 16, .int .i64 N]) rfl rfl hI5 rfl (by kernel_rfl) (by simp [Value.oneCell']) ?_
  intro w6 hI6 hS6
  obtain ⟨gI, hge⟩ : ∃ gI, gI = g := ⟨_, rfl⟩
  subst hge
  have hC6 : Chg Non w1 w6 := hC5.trans2 hS6 (fun b e => .inr (by have e : b = gI := e; omega))
  have hb6 := Hb1.out.non hC6
  have hr6 := Hr1.out.non hC6
  have hc6 := Hc1.out.non hC6
  have hs6 := Hs.out.non hc6
  have bl6 := hb6.lt
  have il6 := hI6.lt
  have rl6 := hr6.lt
  have i0 : w6.cell? ⟨gI, 0, none⟩ = some (.int .i64 16) := hI6.cell 0
  have i1 : w6.cell? ⟨gI, 1, none⟩ = some (.int .i64 N) := hI6.cell 1
  have x1 : w6.cell? ⟨sb, 1, none⟩ = some (.int .i64 pi) := hb6.cell 1
  have x3 : w6.cell? ⟨sb, 3, none⟩ = some (.slice s.sA s.sn s.sc) := hb6.cell 3
  have hpp : IntKind.i64.wrap ((pi : Int) + 1) = (pi : Int) + 1 := by rw [IntKind.wrap_i64]; omega
  have HB6 := Lib.hid hb6
  have HR6 := Lib.hid hr6
  have HC6 := Lib.hid hc6
  have HS6 := Lib.hid hs6
  have HI6 := Lib.hid hI6
  have hrz : w.heap.size < w1.heap.size := Hr1.out.lt
  have HgI : Hid (w.heap.size < gI ∧ sb < gI) := by show _ ∧ _; omega
  clear hI5 hS6 hC5 hb6 hr6 hc6 hs6 hI6 hgI hC6 hw1 hbl hkl hfz hiz hrz
  have hcase : (∃ (m : Nat) (sad : Addr) (v : Int), s.sn = m + 1 ∧ s.sA = some sad ∧ w6.cell? (sad.add m) = some (.int .i64 v)) ∨ s.sn = 0 := by
    by_cases h0 : 0 < s.sn
    · obtain ⟨sad, v, hsA, _, hsc⟩ := (HS6.out.ws.rds).getI (k := s.sn - 1) (by omega)
      exact .inl ⟨s.sn - 1, sad, v, by omega, hsA, hsc⟩
    · exact .inr (by omega)
  rcases hcase with ⟨m, sad, v, hmm, hsA, hsc⟩ | hz
  · have hz1 : (0 : Int) < s.sn := by omega
    have e1 : (s.sn : Int) - 1 = (m : Int) := by omega
    have e2 : IntKind.i64.wrap ((s.sn : Int) - 1) = (m : Int) := by rw [IntKind.wrap_i64]; omega
    have hsz := World.block_lt_of_cell? w6 _ hsc
    have m1 : (m : Int) < s.sn := by omega
    have m2 : m < s.sn := by omega
    have x3' := x3
    rw [hsA] at x3'
    have Hmm := Lib.hid hmm
    have HsA := Lib.hid hsA
    clear hmm hsA x3
    obtain ⟨nn, hnn⟩ : ∃ nn : Nat, N = nn := ⟨N.toNat, by have := Hins.out.2.2.2.2 rfl; have h7 : 0 ≤ N := this.1; omega⟩
    have hnl : nn < j.fn := by have := Hins.out.2.2.2.2 rfl; have h7 : N < j.F.length := this.2; have := HK.out.job.fns.len; omega
    rw [hnn] at i1
    obtain ⟨gg, hgg⟩ : ∃ gg, j.F[nn]? = some gg := ⟨_, List.getElem?_eq_getElem (by have := HK.out.job.fns.len; omega)⟩
    have hga := HK.out.ok.argsOk gg (List.mem_of_getElem? hgg)
    have hpu : popsP j.F (16, N) = gg.args := by
      have hl : N < j.F.length := by have := HK.out.job.fns.len; omega
      unfold popsP
      rw [if_neg (by show ¬ ((16 : Int) = 2 ∨ (16 : Int) = 3 ∨ (16 : Int) = 6 ∨ (16 : Int) = 15 ∨ (16 : Int) = 17 ∨ (16 : Int) = 18 ∨ (16 : Int) = 19); omega), if_neg (by show ¬ ((16 : Int) = 4 ∨ 7 ≤ (16 : Int) ∧ (16 : Int) ≤ 13); omega), if_pos ⟨rfl, by show 0 ≤ N; omega, hl⟩]
      show argsAt j.F N = gg.args
      unfold argsAt
      rw [hnn, Int.toNat_natCast, hgg]
      rfl
    have hpp9 := Hpops.out
    rw [hpu] at hpp9
    have hcall := refSpawn_any w6 b j dA dc R (HK.out.non HC6.out) sb s (by have h9 := HB6.out; unfold stC; rw [Hm.out.hf, Hm.out.hp, Hwt.out]; exact h9) HS6.out nn hnl gg hgg (s.sn - gg.args.toNat) (by omega) (by omega) Hm.out.k0 Hm.out.k16 (by rw [Hm.out.hp]; omega) (by rw [Hm.out.hp]; omega) Hwt.out deep
    have HX := Lib.hid hcall
    clear hcall hnn hgg hga hpu hpp9
    go_wp2_with fail
    refine HX.out.mono ?_
    rintro e w7 ⟨⟨s2, ev, en, he, hgo, _, hT⟩, ev', he'⟩
    obtain rfl : en = true := by
      rw [he] at he'
      injection he' with h9
      injection h9 with h9
      have h8 := congrArg (fun (a : Array Value) => a[1]?) h9
      simpa using h8
    subst he
    have hev := hT rfl
    have hnr : sb ≠ w.heap.size := fun e => by omega
    have hns : ¬ StB sb s w.heap.size := fun h => by
      rcases h with h | h | h
      · exact hnr h.symm
      · exact HS6.out.ws.apart HR6.out (by decide) (rowB_own h)
      · exact HS6.out.wl.apart HR6.out (by decide) (rowB_own h)
    have hr7 := HR6.out.chg hgo.chg hns
    have rl7 := hr7.lt
    obtain ⟨y0, y1, y2, y3, y4, y5, y6⟩ := cell7 hr7
    obtain ⟨z0, z1, z2, z3, z4, z5, z6⟩ : w7.frozen? ⟨w.heap.size, 0, none⟩ = false ∧ w7.frozen? ⟨w.heap.size, 1, none⟩ = false ∧ w7.frozen? ⟨w.heap.size, 2, none⟩ = false ∧ w7.frozen? ⟨w.heap.size, 3, none⟩ = false ∧ w7.frozen? ⟨w.heap.size, 4, none⟩ = false ∧ w7.frozen? ⟨w.heap.size, 5, none⟩ = false ∧ w7.frozen? ⟨w.heap.size, 6, none⟩ = false := ⟨hr7.frozen 0, hr7.frozen 1, hr7.frozen 2, hr7.frozen 3, hr7.frozen 4, hr7.frozen 5, hr7.frozen 6⟩
    obtain ⟨w11, hw11⟩ : ∃ w11, set7 w7 w.heap.size (.int .i64 ev.kind) (.int .i64 ev.fn) (.int .i64 ev.kid) (.int .i64 ev.steps) (.slice ev.A ev.n ev.c) (.int .i64 ev.err) (.int .i64 ev.val) = w11 := ⟨_, rfl⟩
    have hS11 : Chg (fun b => b = w.heap.size) w7 w11 := hw11 ▸ set7_chg _ _ _ _ _ _ _ _ _
    have hB11 := set7_blk hr7 (.int .i64 ev.kind) (.int .i64 ev.fn) (.int .i64 ev.kid) (.int .i64 ev.steps) (.slice ev.A ev.n ev.c) (.int .i64 ev.err) (.int .i64 ev.val)
    rw [hw11] at hB11
    obtain ⟨v0, v1, v2, v3, v4, v5, v6⟩ := cell7 hB11
    have hres : SpPost w j R sb deep s (.returned (.tuple #[.agg (evC ev), .bool true])) w11 := sp_spawn HC6.out HR6.out.lt (Nat.le_refl _) hr7 hnr hS11 hgo hev
    unfold evC at hres
    have Hres := Lib.hid hres
    have Hw11 := Lib.hid hw11
    unfold evC
    clear hr7 hS11 hB11 hw11 hgo hev hT he' hres
    go_wp2_with fail
    rw [set7_name, Hw11.out]
    exact bodyPost_ret (v := .tuple #[.agg #[.int .i64 ev.kind, .int .i64 ev.fn, .int .i64 ev.kid, .int .i64 ev.steps, .slice ev.A ev.n ev.c, .int .i64 ev.err, .int .i64 ev.val], .bool true]) (by simp [results, Try.results65, go_sem, v0, v1, v2, v3, v4, v5, v6]) rfl Hres.out
  · have hz1 : ¬ (0 : Int) < s.sn := by omega
    have Hz := Lib.hid hz
    clear hz
    obtain ⟨nn, hnn⟩ : ∃ nn : Nat, N = nn := ⟨N.toNat, by have := Hins.out.2.2.2.2 rfl; have h7 : 0 ≤ N := this.1; omega⟩
    have hnl : nn < j.fn := by have := Hins.out.2.2.2.2 rfl; have h7 : N < j.F.length := this.2; have := HK.out.job.fns.len; omega
    rw [hnn] at i1
    obtain ⟨gg, hgg⟩ : ∃ gg, j.F[nn]? = some gg := ⟨_, List.getElem?_eq_getElem (by have := HK.out.job.fns.len; omega)⟩
    have hga := HK.out.ok.argsOk gg (List.mem_of_getElem? hgg)
    have hpu : popsP j.F (16, N) = gg.args := by
      have hl : N < j.F.length := by have := HK.out.job.fns.len; omega
      unfold popsP
      rw [if_neg (by show ¬ ((16 : Int) = 2 ∨ (16 : Int) = 3 ∨ (16 : Int) = 6 ∨ (16 : Int) = 15 ∨ (16 : Int) = 17 ∨ (16 : Int) = 18 ∨ (16 : Int) = 19); omega), if_neg (by show ¬ ((16 : Int) = 4 ∨ 7 ≤ (16 : Int) ∧ (16 : Int) ≤ 13); omega), if_pos ⟨rfl, by show 0 ≤ N; omega, hl⟩]
      show argsAt j.F N = gg.args
      unfold argsAt
      rw [hnn, Int.toNat_natCast, hgg]
      rfl
    have hpp9 := Hpops.out
    rw [hpu] at hpp9
    have hcall := refSpawn_any w6 b j dA dc R (HK.out.non HC6.out) sb s (by have h9 := HB6.out; unfold stC; rw [Hm.out.hf, Hm.out.hp, Hwt.out]; exact h9) HS6.out nn hnl gg hgg (s.sn - gg.args.toNat) (by omega) (by omega) Hm.out.k0 Hm.out.k16 (by rw [Hm.out.hp]; omega) (by rw [Hm.out.hp]; omega) Hwt.out deep
    have HX := Lib.hid hcall
    clear hcall hnn hgg hga hpu hpp9
    go_wp2_with fail
    refine HX.out.mono ?_
    rintro e w7 ⟨⟨s2, ev, en, he, hgo, _, hT⟩, ev', he'⟩
    obtain rfl : en = true := by
      rw [he] at he'
      injection he' with h9
      injection h9 with h9
      have h8 := congrArg (fun (a : Array Value) => a[1]?) h9
      simpa using h8
    subst he
    have hev := hT rfl
    have hnr : sb ≠ w.heap.size := fun e => by omega
    have hns : ¬ StB sb s w.heap.size := fun h => by
      rcases h with h | h | h
      · exact hnr h.symm
      · exact HS6.out.ws.apart HR6.out (by decide) (rowB_own h)
      · exact HS6.out.wl.apart HR6.out (by decide) (rowB_own h)
    have hr7 := HR6.out.chg hgo.chg hns
    have rl7 := hr7.lt
    obtain ⟨y0, y1, y2, y3, y4, y5, y6⟩ := cell7 hr7
    obtain ⟨z0, z1, z2, z3, z4, z5, z6⟩ : w7.frozen? ⟨w.heap.size, 0, none⟩ = false ∧ w7.frozen? ⟨w.heap.size, 1, none⟩ = false ∧ w7.frozen? ⟨w.heap.size, 2, none⟩ = false ∧ w7.frozen? ⟨w.heap.size, 3, none⟩ = false ∧ w7.frozen? ⟨w.heap.size, 4, none⟩ = false ∧ w7.frozen? ⟨w.heap.size, 5, none⟩ = false ∧ w7.frozen? ⟨w.heap.size, 6, none⟩ = false := ⟨hr7.frozen 0, hr7.frozen 1, hr7.frozen 2, hr7.frozen 3, hr7.frozen 4, hr7.frozen 5, hr7.frozen 6⟩
    obtain ⟨w11, hw11⟩ : ∃ w11, set7 w7 w.heap.size (.int .i64 ev.kind) (.int .i64 ev.fn) (.int .i64 ev.kid) (.int .i64 ev.steps) (.slice ev.A ev.n ev.c) (.int .i64 ev.err) (.int .i64 ev.val) = w11 := ⟨_, rfl⟩
    have hS11 : Chg (fun b => b = w.heap.size) w7 w11 := hw11 ▸ set7_chg _ _ _ _ _ _ _ _ _
    have hB11 := set7_blk hr7 (.int .i64 ev.kind) (.int .i64 ev.fn) (.int .i64 ev.kid) (.int .i64 ev.steps) (.slice ev.A ev.n ev.c) (.int .i64 ev.err) (.int .i64 ev.val)
    rw [hw11] at hB11
    obtain ⟨v0, v1, v2, v3, v4, v5, v6⟩ := cell7 hB11
    have hres : SpPost w j R sb deep s (.returned (.tuple #[.agg (evC ev), .bool true])) w11 := sp_spawn HC6.out HR6.out.lt (Nat.le_refl _) hr7 hnr hS11 hgo hev
    unfold evC at hres
    have Hres := Lib.hid hres
    have Hw11 := Lib.hid hw11
    unfold evC
    clear hr7 hS11 hB11 hw11 hgo hev hT he' hres
    go_wp2_with fail
    rw [set7_name, Hw11.out]
    exact bodyPost_ret (v := .tuple #[.agg #[.int .i64 ev.kind, .int .i64 ev.fn, .int .i64 ev.kid, .int .i64 ev.steps, .slice ev.A ev.n ev.c, .int .i64 ev.err, .int .i64 ev.val], .bool true]) (by simp [results, Try.results65, go_sem, v0, v1, v2, v3, v4, v5, v6]) rfl Hres.out
end Go.Proofs.Yteinbdifncdaiaa
