/-
  move.Giver: Offer that goes, Again, In.
-/
import Derived.Test.YtflaliomkfbagaaMv
import Derived.Test.YtflaliomkfbagaaRegionM
namespace Go.Proofs.Ytflaliomkfbagaa
open Go.RowKit
set_option linter.unusedVariables false
set_option linter.unusedSimpArgs false

def offerS (s : GvS) (a : ByteArray) (o : Of) : GvS := { node := s.node, has := fun c => !decide (c = a) && s.has c, off := setO s.off a (some o), num := o.num }

set_option maxRecDepth 100000 in
set_option maxHeartbeats 8000000 in
theorem gvOffer_yes (w : World) (F : Nat → Prop) (g sm om ns no : Nat) (s : GvS) (h : Gv w F g sm om ns no s) (a : ByteArray) (ha : a.size ≤ maxLen) (to epoch : Int) (hh : s.has a = true) (h1 : (to == s.node) = false) (h2 : 0 ≤ to) (h3 : to < 16) (h4 : 0 ≤ epoch) (h5 : epoch ≤ 2147483647) (hnm : 0 ≤ s.num ∧ s.num ≤ 1000000) (hno : no ≤ 1000000) :
    Calls Try.prog 16 #[.pointer (some ⟨g, 0, none⟩), .string a, .int .i64 to, .int .i64 epoch] w fun e w2 => e = .returned (.tuple #[offV ⟨to, epoch, s.num + 1⟩ a, .int .i64 0]) ∧ ∃ ns2 no2, ns2 ≤ ns ∧ no2 ≤ no + 1 ∧ Gv w2 F g sm om ns2 no2 (offerS s a ⟨to, epoch, s.num + 1⟩) ∧ Chg F w w2 := by
  obtain ⟨w1, hw1⟩ : ∃ w1, w.alloc (.cells #[.int .i64 0, .int .i64 0, .int .i64 0, .int .i64 0, .string ⟨#[]⟩, .int .i64 0, .slice none 0 0, .int .i64 0, .int .i64 0, .int .i64 0, .slice none 0 0] 59) = w1 := ⟨_, rfl⟩
  have hc1 : Chg Non w w1 := hw1 ▸ (Chg.refl _ _).alloc _
  have hbR : Blk w1 w.heap.size 59 #[.int .i64 0, .int .i64 0, .int .i64 0, .int .i64 0, .string ⟨#[]⟩, .int .i64 0, .slice none 0 0, .int .i64 0, .int .i64 0, .int .i64 0, .slice none 0 0] := hw1 ▸ Blk.new _ _ _
  have hRF : ¬ F w.heap.size := fun e => by have := h.lt _ e; omega
  have h := h.non hc1
  have c0 : w1.cell? ⟨g, 0, none⟩ = some (.map (some sm)) := h.hb.cell 0
  have c1 : w1.cell? ⟨g, 1, none⟩ = some (.int .i64 s.node) := h.hb.cell 1
  have gl := h.hb.lt
  have q1 := h.hs.lookS Try.underlying45 (z := .bool false) (by kernel_rfl) ha rfl
  have hin : (inB s.has a).getD (.bool false) = .bool true := by unfold inB; rw [hh]; rfl
  rw [hin] at q1
  have hwr : IntKind.i64.wrap (s.num + 1) = s.num + 1 := by rw [IntKind.wrap_i64]; omega
  have H := Lib.hid h
  have Hc1 := Lib.hid hc1
  have HbR := Lib.hid hbR
  have hsg : g ≠ sm := fun e => h.hs.apart h.hb e.symm
  have hog : g ≠ om := fun e => h.ho.apart h.hb e.symm
  have hRg : w.heap.size ≠ g := fun e => hRF (e ▸ h.Fg)
  have hRs : w.heap.size ≠ sm := fun e => hRF (e ▸ h.Fs)
  have hRo : w.heap.size ≠ om := fun e => hRF (e ▸ h.Fo)
  have D1 : decide (to < 0) = false := decide_eq_false (by omega)
  have D2 : decide (16 ≤ to) = false := decide_eq_false (by omega)
  have D3 : decide (epoch < 0) = false := decide_eq_false (by omega)
  have D4 : decide (2147483647 < epoch) = false := decide_eq_false (by omega)
  clear h hbR hh hin h2 h3 h4 h5
  go_enter Try.func16, Try.ntmps16
  go_wp2_with (at_delete; refine wp_delete_Mp (K := nmKey) rfl (.tmp 46) (.tmp 47) 45 rfl H.out.hs Try.underlying45 rfl (b := a) ha rfl ?_; intro w2 hm2 hc2; have hb2 := H.out.hb.chg hc2 hsg; have c3 : w2.cell? ⟨g, 3, none⟩ = some (.int .i64 s.num) := hb2.cell 3; have f3 := hb2.frozen 3; obtain ⟨w3, hw3⟩ : ∃ w3, w2.setCell ⟨g, 3, none⟩ (.int .i64 (s.num + 1)) = w3 := ⟨_, rfl⟩; have hb3 := hb2.put 3 (.int .i64 (s.num + 1)); rw [hw3] at hb3; simp only [List.setIfInBounds_toArray, List.set_cons_succ, List.set_cons_zero] at hb3; have hc3 : Chg (fun b => b = g) w2 w3 := hw3 ▸ (Chg.refl _ _).set1 3 _; have c33 : w3.cell? ⟨g, 3, none⟩ = some (.int .i64 (s.num + 1)) := hb3.cell 3; have gl3 := hb3.lt; obtain ⟨w4, hw4⟩ : ∃ w4, w3.alloc (.cells #[.int .i64 to, .int .i64 epoch, .int .i64 (s.num + 1)] 95) = w4 := ⟨_, rfl⟩)
  have hc4 : Chg Non w3 w4 := hw4 ▸ (Chg.refl _ _).alloc _
  have hbO : Blk w4 w3.heap.size 95 #[.int .i64 to, .int .i64 epoch, .int .i64 (s.num + 1)] := hw4 ▸ Blk.new _ _ _
  try rw [hw4]
  have hb4 := hb3.non hc4
  have hm4 := (hm2.chg hc3 (fun e => hsg (show sm = g from e).symm)).non hc4
  have ho4 := ((H.out.ho.chg hc2 (fun e => H.out.ne (show om = sm from e).symm)).chg hc3 (fun e => hog (show om = g from e).symm)).non hc4
  have hR4 := ((HbR.out.chg hc2 hRs).chg hc3 hRg).non hc4
  have hs2 := hc2.size
  have hs3 := hc3.size
  have hs4 := hc4.size
  have hOg : g ≠ w3.heap.size := fun e => by omega
  have k2 : ∀ wx, Chg Non w4 wx → wx.cell? ⟨g, 2, none⟩ = some (.map (some om)) := fun wx h => (hb4.non h).cell 2
  have n0 : ∀ wx, Chg Non w4 wx → wx.cell? ⟨w3.heap.size, 0, none⟩ = some (.int .i64 to) := fun wx h => (hbO.non h).cell 0
  have n1 : ∀ wx, Chg Non w4 wx → wx.cell? ⟨w3.heap.size, 1, none⟩ = some (.int .i64 epoch) := fun wx h => (hbO.non h).cell 1
  have n2 : ∀ wx, Chg Non w4 wx → wx.cell? ⟨w3.heap.size, 2, none⟩ = some (.int .i64 (s.num + 1)) := fun wx h => (hbO.non h).cell 2
  have gl4 := hb4.lt
  have ol4 := hbO.lt
  clear c0 c1 gl q1 c3 f3 c33 gl3 hw3 hw1
  refine st_region_tail 8 6 Non [] [] (fun _ _ _ _ => True) (fun _ _ _ _ => True) (fun _ _ _ => True) (fun _ => True) (by kernel_rfl) (by kernel_rfl) (by kernel_rfl) (fun _ h => h.elim) trivial (fun _ _ _ => trivial) ?_
  repeat (first | (refine st_pass (by rfl) ?_; simp only [Act.put, List.setIfInBounds_toArray, List.set_cons_succ, List.set_cons_zero]) | (refine st_plain (Non) (w4) rfl rfl (f := ?_) (by rfl) rfl rfl (fun w hC hG => ?_) ?_; rotate_left; (clear hG; first | (go_simp; done) | (go_simp; with_reducible rfl) | (simp [*, go_sem, ↓IntWalk.iteOmega]; done) | (simp [*, go_sem, ↓IntWalk.iteOmega]; with_reducible rfl)); simp only [Act.put, List.setIfInBounds_toArray, List.set_cons_succ, List.set_cons_zero]))
  refine st_tail Non w4 rfl rfl rfl (fun w7 hC7 _ _ => ?_)
  simp only [List.drop_succ_cons, List.drop_zero]
  have hm7 := hm4.non hC7
  have ho7 := ho4.non hC7
  have hb7 := hb4.non hC7
  have hbO7 := hbO.non hC7
  have hR7 := hR4.non hC7
  have hs7 := hC7.size
  clear k2 n0 n1 n2 gl4 ol4
  refine wp_store_Mp (K := nmKey) rfl (.tmp 65) (.tmp 66) (.tmp 67) 46 rfl ho7 Try.underlying46 (by unfold maxLen; omega) rfl (b := a) ha rfl (u := ofV ⟨to, epoch, s.num + 1⟩) rfl ?_
  intro w8 hm8 hc8
  have hb8 := hb7.chg hc8 hog
  have hs8 := hm7.chg hc8 (fun e => H.out.ne e)
  have hz8 := hc8.size
  have hoS : ¬ (w3.heap.size = om) := fun e => by have := H.out.lt om H.out.Fo; have := Hc1.out.size; omega
  have hbO8 := hbO7.chg hc8 hoS
  have hR8 := hR7.chg hc8 hRo
  have p0 : w8.cell? ⟨w3.heap.size, 0, none⟩ = some (.int .i64 to) := hbO8.cell 0
  have p1 : w8.cell? ⟨w3.heap.size, 1, none⟩ = some (.int .i64 epoch) := hbO8.cell 1
  have p2 : w8.cell? ⟨w3.heap.size, 2, none⟩ = some (.int .i64 (s.num + 1)) := hbO8.cell 2
  have pl := hbO8.lt
  have hNt := offNote_any w8 ⟨to, epoch, s.num + 1⟩ a
  have hC8 : Chg F w w8 := (((((Hc1.out.of_non (S := F)).trans2 hc2 (fun b e => .inl (by have e : b = sm := e; rw [e]; exact H.out.Fs))).trans2 hc3 (fun b e => .inl (by have e : b = g := e; rw [e]; exact H.out.Fg))).non hc4).non hC7).trans2 hc8 (fun b e => .inl (by have e : b = om := e; rw [e]; exact H.out.Fo))
  rw [inB_del] at hs8
  rw [of_set] at hm8
  have hns2 : (if (inB s.has a).isSome then ns - 1 else ns) ≤ ns := by split <;> omega
  generalize (if (inB s.has a).isSome then ns - 1 else ns) = nsx at hs8 hns2
  have hno2 : (if ((s.off a).map ofV).isSome then no else no + 1) ≤ no + 1 := by split <;> omega
  generalize (if ((s.off a).map ofV).isSome then no else no + 1) = nox at hm8 hno2
  clear hm7 ho7 hb7 hbO7 hR7 hbO hb4 hm4 ho4 hR4 hbO8 hc2 hc3 hc4 hC7 hc8 hb2 hb3 hm2
  go_wp2_with fail
  refine hNt.mono ?_
  clear hNt p0 p1 p2 pl
  rintro e w9 ⟨rfl, hc9⟩
  replace hb8 := hb8.non hc9
  replace hs8 := hs8.non hc9
  replace hm8 := hm8.non hc9
  replace hR8 := hR8.non hc9
  replace hC8 := hC8.non hc9
  unfold offV offN Nt.zero NtC
  dsimp only
  have d0 := hR8.cell 0
  have d1 := hR8.cell 1
  have d2 := hR8.cell 2
  have d3 := hR8.cell 3
  have d4 := hR8.cell 4
  have d5 := hR8.cell 5
  have d6 := hR8.cell 6
  have d7 := hR8.cell 7
  have d8 := hR8.cell 8
  have d9 := hR8.cell 9
  have d10 := hR8.cell 10
  simp only [List.getElem?_toArray, List.getElem?_cons_zero, List.getElem?_cons_succ] at d0 d1 d2 d3 d4 d5 d6 d7 d8 d9 d10
  have f0 := hR8.frozen 0
  have f1 := hR8.frozen 1
  have f2 := hR8.frozen 2
  have f3 := hR8.frozen 3
  have f4 := hR8.frozen 4
  have f5 := hR8.frozen 5
  have f6 := hR8.frozen 6
  have f7 := hR8.frozen 7
  have f8 := hR8.frozen 8
  have f9 := hR8.frozen 9
  have f10 := hR8.frozen 10
  have rl := hR8.lt
  have hb9 := (((((((((((hR8.put 0 (.int .i64 4)).put 1 (.int .i64 0)).put 2 (.int .i64 (s.num + 1))).put 3 (.int .i64 epoch)).put 4 (.string a)).put 5 (.int .i64 0)).put 6 (.slice none 0 0)).put 7 (.int .i64 0)).put 8 (.int .i64 0)).put 9 (.int .i64 0)).put 10 (.slice none 0 0))
  simp only [List.setIfInBounds_toArray, List.set_cons_succ, List.set_cons_zero] at hb9
  have r0 := hb9.cell 0
  have r1 := hb9.cell 1
  have r2 := hb9.cell 2
  have r3 := hb9.cell 3
  have r4 := hb9.cell 4
  have r5 := hb9.cell 5
  have r6 := hb9.cell 6
  have r7 := hb9.cell 7
  have r8 := hb9.cell 8
  have r9 := hb9.cell 9
  have r10 := hb9.cell 10
  simp only [List.getElem?_toArray, List.getElem?_cons_zero, List.getElem?_cons_succ] at r0 r1 r2 r3 r4 r5 r6 r7 r8 r9 r10
  obtain ⟨w10, hw10⟩ : ∃ w10, (((((((((((w9.setCell ⟨w.heap.size, 0, none⟩ (.int .i64 4)).setCell ⟨w.heap.size, 1, none⟩ (.int .i64 0)).setCell ⟨w.heap.size, 2, none⟩ (.int .i64 (s.num + 1))).setCell ⟨w.heap.size, 3, none⟩ (.int .i64 epoch)).setCell ⟨w.heap.size, 4, none⟩ (.string a)).setCell ⟨w.heap.size, 5, none⟩ (.int .i64 0)).setCell ⟨w.heap.size, 6, none⟩ (.slice none 0 0)).setCell ⟨w.heap.size, 7, none⟩ (.int .i64 0)).setCell ⟨w.heap.size, 8, none⟩ (.int .i64 0)).setCell ⟨w.heap.size, 9, none⟩ (.int .i64 0)).setCell ⟨w.heap.size, 10, none⟩ (.slice none 0 0)) = w10 := ⟨_, rfl⟩
  have hc10 : Chg (fun b => b = w.heap.size) w9 w10 := by
    rw [← hw10]
    exact ((((((((((((Chg.refl _ _).set1 0 _).set1 1 _).set1 2 _).set1 3 _).set1 4 _).set1 5 _).set1 6 _).set1 7 _).set1 8 _).set1 9 _).set1 10 _)
  rw [hw10] at r0 r1 r2 r3 r4 r5 r6 r7 r8 r9 r10
  have hgv : Gv w10 F g sm om nsx nox (offerS s a ⟨to, epoch, s.num + 1⟩) := by
    refine Gv.chg ⟨hb8, hs8, hm8, H.out.ne, H.out.Fg, H.out.Fs, H.out.Fo, fun b hb => ?_⟩ hc10 (fun b hb e => hRF (by have e : b = w.heap.size := e; rw [← e]; exact hb))
    have h9 := H.out.lt b hb
    have h12 := hc9.size
    omega
  have hCf : Chg F w w10 := hC8.trans2 hc10 (fun b e => .inr (by have e : b = w.heap.size := e; omega))
  have Hgv := Lib.hid hgv
  have HCf := Lib.hid hCf
  clear hgv hCf hb8 hs8 hm8 hR8 hb9 hc10 hc9 hC8
  go_wp2_with fail
  exact bodyPost_ret (v := .tuple #[.agg #[.int .i64 4, .int .i64 0, .int .i64 (s.num + 1), .int .i64 epoch, .string a, .int .i64 0, .slice none 0 0, .int .i64 0, .int .i64 0, .int .i64 0, .slice none 0 0], .int .i64 0]) (by simp [results, Try.results16, go_sem, r0, r1, r2, r3, r4, r5, r6, r7, r8, r9, r10]) rfl ⟨rfl, nsx, nox, hns2, hno2, Hgv.out, HCf.out⟩
end Go.Proofs.Ytflaliomkfbagaa
