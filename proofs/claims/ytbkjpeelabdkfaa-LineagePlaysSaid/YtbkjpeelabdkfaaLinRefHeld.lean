/-
  gleanerref14.Log: Held.
-/
import Derived.Test.YtbkjpeelabdkfaaLinRefOrph
import Derived.Test.YtbkjpeelabdkfaaRegionM
namespace Go.Proofs.Ytbkjpeelabdkfaa
open Go.RowKit
set_option linter.unusedVariables false
set_option linter.unusedSimpArgs false

set_option maxRecDepth 100000 in
set_option maxHeartbeats 4000000 in
theorem refHeld_any (w : World) (F : Nat → Prop) (g : Nat) (L : List Rr) (h : Rl w F g L) (a : ByteArray) :
    Calls Try.prog 25 #[.pointer (some ⟨g, 0, none⟩), .string a] w (HdPost w (lsOf L) a) := by
  obtain ⟨w1, hw1⟩ : ∃ w1, w.alloc (.cells #[.string ⟨#[]⟩, .int .i64 0, .int .i64 0] 55) = w1 := ⟨_, rfl⟩
  have hc1 : Chg Non w w1 := hw1 ▸ (Chg.refl _ _).alloc _
  have hbR : Blk w1 w.heap.size 55 #[.string ⟨#[]⟩, .int .i64 0, .int .i64 0] := hw1 ▸ Blk.new _ _ _
  have h := h.non hc1
  have hf := refFind_any w1 F g L a h
  obtain ⟨⟨A, n, c, hn, h1, h2, hb, ho, h3, h4, h5⟩, h6⟩ := h
  have c1 : w1.cell? ⟨g, 0, none⟩ = some (.slice A n c) := hb.cell 0
  have hg := hb.lt
  unfold maxLen at h2
  have r0 := hbR.cell 0
  have r1 := hbR.cell 1
  have r2 := hbR.cell 2
  have s0 := hbR.frozen 0
  have s1 := hbR.frozen 1
  have s2 := hbR.frozen 2
  have rl := hbR.lt
  simp only [List.getElem?_toArray, List.getElem?_cons_zero, List.getElem?_cons_succ] at r0 r1 r2
  have hb4 := ((hbR.put 0 (.string ⟨#[]⟩)).put 1 (.int .i64 0)).put 2 (.int .i64 0)
  simp only [List.setIfInBounds_toArray, List.set_cons_succ, List.set_cons_zero] at hb4
  have t0 := hb4.cell 0
  have t1 := hb4.cell 1
  have t2 := hb4.cell 2
  simp only [List.getElem?_toArray, List.getElem?_cons_zero, List.getElem?_cons_succ] at t0 t1 t2
  have hC4 := ((hc1.setCell (p := ⟨w.heap.size, 0, none⟩) (.inr (by simp)) (.string ⟨#[]⟩)).setCell (p := ⟨w.heap.size, 1, none⟩) (.inr (by simp)) (.int .i64 0)).setCell (p := ⟨w.heap.size, 2, none⟩) (.inr (by simp)) (.int .i64 0)
  cases hk : fL L a with
  | none =>
    have hr := goR_none (ls_none hk)
    have hA : heldA (lsOf L) a = .agg #[.string ⟨#[]⟩, .int .i64 0, .int .i64 0] := by unfold heldA; rw [hr]
    have hB : heldB (lsOf L) a = false := by unfold heldB; rw [hr]; rfl
    have HA := Lib.hid hA
    have HB := Lib.hid hB
    rw [iL_none hk] at hf
    clear hk hb ho hA hB hr hb4 hbR
    go_enter Try.func25, Try.ntmps25
    go_wp2_with fail
    refine hf.mono ?_
    rintro e w2 ⟨rfl, rfl⟩
    clear hf hw1
    go_wp2_with fail
    exact bodyPost_ret (v := .tuple #[.agg #[.string ⟨#[]⟩, .int .i64 0, .int .i64 0], .bool false]) (by simp [results, Try.results25, go_sem, t0, t1, t2]) rfl ⟨by rw [HA.out, HB.out], hC4⟩
  | some k =>
    obtain ⟨x, hx, hxa, hls⟩ := ls_some hk
    rw [iL_some hk] at hf
    have hkn : k < n := by have := hn.out; have := (List.getElem?_eq_some_iff.1 hx).1; omega
    obtain ⟨gb, cc, hv, _⟩ := ho.form (by omega)
    injection hv with e1 e2 e3
    subst e1 e3
    have q1 : w1.cell? ⟨gb, k * 5 + 1, none⟩ = some (.int .i64 x.rc.node) := ho.cellN cellL_len hx (j := 1) rfl
    have q2 : w1.cell? ⟨gb, k * 5 + 2, none⟩ = some (.int .i64 x.rc.epoch) := ho.cellN cellL_len hx (j := 2) rfl
    have q4 : w1.cell? ⟨gb, k * 5 + 4, none⟩ = some (.bool x.rc.ended) := ho.cellN cellL_len hx (j := 4) rfl
    have hgl := World.block_lt_of_cell? w1 _ q4
    have hgo := goR_of hls
    cases hi : x.rc.ended with
    | true =>
      rw [hi] at q4 hgo
      rw [if_pos rfl] at hgo
      have hA : heldA (lsOf L) a = .agg #[.string ⟨#[]⟩, .int .i64 0, .int .i64 0] := by unfold heldA; rw [hgo]
      have hB : heldB (lsOf L) a = false := by unfold heldB; rw [hgo]; rfl
      have HA := Lib.hid hA
      have HB := Lib.hid hB
      clear hk hb ho hx hi hgo hls hxa hA hB hb4 hbR
      go_enter Try.func25, Try.ntmps25
      go_wp2_with fail
      refine hf.mono ?_
      rintro e w2 ⟨rfl, rfl⟩
      clear hf hw1
      go_wp2_with fail
      exact bodyPost_ret (v := .tuple #[.agg #[.string ⟨#[]⟩, .int .i64 0, .int .i64 0], .bool false]) (by simp [results, Try.results25, go_sem, t0, t1, t2]) rfl ⟨by rw [HA.out, HB.out], hC4⟩
    | false =>
      rw [hi] at q4 hgo
      rw [if_neg Bool.false_ne_true] at hgo
      have hA : heldA (lsOf L) a = .agg #[.string a, .int .i64 x.rc.node, .int .i64 x.rc.epoch] := by unfold heldA; rw [hgo]
      have hB : heldB (lsOf L) a = true := by unfold heldB; rw [hgo]; rfl
      have HA := Lib.hid hA
      have HB := Lib.hid hB
      have hne : g ≠ w.heap.size := fun e => hb.apart hbR (by decide) e
      have hne2 : gb ≠ w.heap.size := fun e => ho.apart hbR (by decide) (by rw [← e]; rfl)
      have kg : ∀ wx, Chg (fun c => c = w.heap.size) w1 wx → wx.cell? ⟨g, 0, none⟩ = some (.slice (some ⟨gb, 0, none⟩) n c) := fun wx h => (hb.chg h hne).cell 0
      have k1 : ∀ wx, Chg (fun c => c = w.heap.size) w1 wx → wx.cell? ⟨gb, k * 5 + 1, none⟩ = some (.int .i64 x.rc.node) := fun wx h => h.cell q1 hne2
      have k2 : ∀ wx, Chg (fun c => c = w.heap.size) w1 wx → wx.cell? ⟨gb, k * 5 + 2, none⟩ = some (.int .i64 x.rc.epoch) := fun wx h => h.cell q2 hne2
      have b1 : (0 : Int) ≤ (k : Int) := by omega
      have b2 : (k : Int) < n := by omega
      clear hk hb ho hx hi hgo hls hxa hA hB hb4 t0 t1 t2 hC4
      go_enter Try.func25, Try.ntmps25
      go_wp2_with fail
      refine hf.mono ?_
      rintro e w2 ⟨rfl, rfl⟩
      clear hf hw1
      go_wp2_with fail
      clear r0 r1 r2 s0 s1 s2 q1 q2 q4 c1
      refine st_region _ (fun c => c = w.heap.size) [18] [] (fun _ _ _ w2 => Blk w2 w.heap.size 55 #[.string a, .int .i64 x.rc.node, .int .i64 x.rc.epoch]) (fun _ _ _ _ => True) (fun _ _ v => v = undef) (fun w2 => Blk w2 w.heap.size 55 #[.string ⟨#[]⟩, .int .i64 0, .int .i64 0]) (by kernel_rfl) (okB_of_F _ (by kernel_rfl)) (fun b e => by rw [e]; exact rl) hbR (fun _ _ h => h.alloc _) ?_
      repeat (first | (refine st_pass (by rfl) ?_; simp only [Act.put, List.setIfInBounds_toArray, List.set_cons_succ, List.set_cons_zero]) | (refine st_plain (fun c => c = w.heap.size) (w1) rfl rfl (f := ?_) (by rfl) rfl rfl (fun w hC hG => ?_) ?_; rotate_left; (clear hG; first | (go_simp; done) | (go_simp; with_reducible rfl) | (simp [*, go_sem, ↓IntWalk.iteOmega]; done) | (simp [*, go_sem, ↓IntWalk.iteOmega]; with_reducible rfl)); simp only [Act.put, List.setIfInBounds_toArray, List.set_cons_succ, List.set_cons_zero]))
      refine st_major (fun c => c = w.heap.size) w1 rfl rfl (by rfl) rfl ⟨_, rfl⟩ (fun _ _ _ _ _ _ => trivial) (fun v wx ob h => h.alloc ob) (fun wx hC hG hS => ?_) ?_
      · have r0 := hS.cell 0
        have r1 := hS.cell 1
        have r2 := hS.cell 2
        have s0 := hS.frozen 0
        have s1 := hS.frozen 1
        have s2 := hS.frozen 2
        simp only [List.getElem?_toArray, List.getElem?_cons_zero, List.getElem?_cons_succ] at r0 r1 r2
        have hb4 := ((hS.put 0 (.string a)).put 1 (.int .i64 x.rc.node)).put 2 (.int .i64 x.rc.epoch)
        simp only [List.setIfInBounds_toArray, List.set_cons_succ, List.set_cons_zero] at hb4
        clear hG kg k1 k2
        refine settle_of (r2 := .ok .skip (((wx.setCell ⟨w.heap.size, 0, none⟩ (.string a)).setCell ⟨w.heap.size, 1, none⟩ (.int .i64 x.rc.node)).setCell ⟨w.heap.size, 2, none⟩ (.int .i64 x.rc.epoch))) ?_ (settle_skip ⟨rfl, (((Chg.refl _ _).set1 0 _).set1 1 _).set1 2 _, hb4, trivial⟩)
        first | (go_simp; done) | (go_simp; rfl)
      · rintro v4 rfl
        simp only [Act.put, List.setIfInBounds_toArray, List.set_cons_succ, List.set_cons_zero]
        repeat (first | (refine st_pass (by rfl) ?_; simp only [Act.put, List.setIfInBounds_toArray, List.set_cons_succ, List.set_cons_zero]) | (refine st_plain (fun c => c = w.heap.size) (w1) rfl rfl (f := ?_) (by rfl) rfl rfl (fun w hC hG => ?_) ?_; rotate_left; (clear hG; first | (go_simp; done) | (go_simp; with_reducible rfl) | (simp [*, go_sem, ↓IntWalk.iteOmega]; done) | (simp [*, go_sem, ↓IntWalk.iteOmega]; with_reducible rfl)); simp only [Act.put, List.setIfInBounds_toArray, List.set_cons_succ, List.set_cons_zero]))
        refine st_end (fun c => c = w.heap.size) w1 rfl rfl (fun w5 hC5 hS5 hG => ?_)
        have hS5 : Blk w5 w.heap.size 55 #[.string a, .int .i64 x.rc.node, .int .i64 x.rc.epoch] := hS5
        have t0 := hS5.cell 0
        have t1 := hS5.cell 1
        have t2 := hS5.cell 2
        simp only [List.getElem?_toArray, List.getElem?_cons_zero, List.getElem?_cons_succ] at t0 t1 t2
        have hC6 : Chg Non w w5 := hc1.trans2 hC5 (fun b e => .inr (by have e : b = w.heap.size := e; omega))
        clear hG kg k1 k2 hS5 hC5
        try go_wp2_with fail
        exact bodyPost_ret (v := .tuple #[.agg #[.string a, .int .i64 x.rc.node, .int .i64 x.rc.epoch], .bool true]) (by simp [results, Try.results25, go_sem, t0, t1, t2]) rfl ⟨by rw [HA.out, HB.out], hC6⟩
end Go.Proofs.Ytbkjpeelabdkfaa
