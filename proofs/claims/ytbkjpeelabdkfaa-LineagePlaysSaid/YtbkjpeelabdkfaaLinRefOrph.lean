/-
  gleanerref14.Log: Orphans; Held of both.
-/
import Derived.Test.YtbkjpeelabdkfaaLinRefMore
namespace Go.Proofs.Ytbkjpeelabdkfaa
open Go.RowKit
set_option linter.unusedVariables false
set_option linter.unusedSimpArgs false

set_option maxRecDepth 100000 in
set_option maxHeartbeats 4000000 in
theorem refOrphans_any (w : World) (F : Nat → Prop) (g : Nat) (L : List Rr) (h : Rl w F g L) (hnd : (L.map (·.id)).Nodup) (hLl : L.length ≤ 1000000) (ep : Int) (B : Option Addr) (q d : Nat) (M : List Mb) (hM : Rds w 2 B q (mv M)) (hq : q ≤ 9223372036854775807) :
    Calls Try.prog 26 #[.pointer (some ⟨g, 0, none⟩), .agg #[.int .i64 ep, .slice B q d]] w (SuPost w (lsOf L) (orphanP M)) := by
  obtain ⟨w1, hw1⟩ : ∃ w1, w.alloc (.cells #[.int .i64 ep, .slice B q d] 34) = w1 := ⟨_, rfl⟩
  have hc1 : Chg Non w w1 := hw1 ▸ (Chg.refl _ _).alloc _
  have hbV : Blk w1 w.heap.size 34 #[.int .i64 ep, .slice B q d] := hw1 ▸ Blk.new _ _ _
  have h := h.non hc1
  have hM1 := Lib.hid (hM.non hc1)
  obtain ⟨⟨A, n, c, hn, h1, h2, hb, ho, h3, h4, h5⟩, h6⟩ := h
  have Hb := Lib.hid hb
  have Ho := Lib.hid ho
  have Hnd := Lib.hid hnd
  have HbV := Lib.hid hbV
  have hnl : n ≤ 1000000 := by have := hn.out; omega
  unfold maxLen at h2
  have hgl := hb.lt
  have hvl := hbV.lt
  clear hb ho hnd hM hbV
  go_enter Try.func26, Try.ntmps26
  go_wp2_with fail
  clear hw1
  go_loopw [5, 6] (fun v i wr => ∃ (k m : Nat), k ≤ n ∧ i = .int .i64 k ∧ Hid (m = (outR L (fun x => !x.rc.ended && orphanP M x.rc) k).length) ∧ OwnR rkI wr w.heap.size v m (sv (outR L (fun x => !x.rc.ended && orphanP M x.rc) k)) ∧ Chg Non w1 wr) (fun _ i _ => n - (intOf i).toNat)
  case atStart => exact ⟨0, 0, Nat.zero_le _, rfl, rfl, OwnR.nil _ _ _, Chg.refl _ _⟩
  case round =>
    obtain ⟨k, m, hk, rfl, hm, hout, hC⟩ := hrel
    have c1 : wr.cell? ⟨g, 0, none⟩ = some (.slice A n c) := (Hb.out.non hC).cell 0
    have hgl2 : g < wr.heap.size := by have := hC.size; omega
    by_cases hlt : k < n
    · obtain ⟨gb, cc, hv, _⟩ := Ho.out.form (by omega)
      injection hv with e1 e2 e3
      subst e1 e3
      have hkl : k < L.length := by have := hn.out; omega
      obtain ⟨x, hx⟩ : ∃ x, L[k]? = some x := ⟨_, List.getElem?_eq_getElem hkl⟩
      have hst := outR_step (p := fun x => !x.rc.ended && orphanP M x.rc) hx
      have hor := Ho.out.non hC
      have hop : orphanP M x.rc = !hasN M x.rc.node := rfl
      have f1 : ∀ wx, Chg Non wr wx → wx.cell? ⟨gb, k * 5 + 1, none⟩ = some (.int .i64 x.rc.node) := fun wx h => (hor.non h).cellN cellL_len hx (j := 1) rfl
      have fg : ∀ wx, Chg Non wr wx → wx.cell? ⟨g, 0, none⟩ = some (.slice (some ⟨gb, 0, none⟩) n c) := fun wx h => h.cell c1 id
      have fv0 : ∀ wx, Chg Non wr wx → wx.cell? ⟨w.heap.size, 0, none⟩ = some (.int .i64 ep) := fun wx h => ((HbV.out.non hC).non h).cell 0
      have fv1 : ∀ wx, Chg Non wr wx → wx.cell? ⟨w.heap.size, 1, none⟩ = some (.slice B q d) := fun wx h => ((HbV.out.non hC).non h).cell 1
      have x0 : wr.cell? ⟨gb, k * 5, none⟩ = some (.string x.id) := hor.cellN cellL_len hx (j := 0) rfl
      have x4 : wr.cell? ⟨gb, k * 5 + 4, none⟩ = some (.bool x.rc.ended) := hor.cellN cellL_len hx (j := 4) rfl
      have hbl := World.block_lt_of_cell? wr _ x4
      have hvl2 : w.heap.size < wr.heap.size := by have := hC.size; omega
      have b1 : (0 : Int) ≤ (k : Int) := by omega
      have b2 : (k : Int) < n := by omega
      have hlen := outR_le L (fun x => !x.rc.ended && orphanP M x.rc) k
      have hmk : m ≤ 1000000 := by have := hm.out; omega
      have hcm := fun wx (h : Chg Non wr wx) => refMember_any wx ep B q d M x.rc.node ((hM1.out.non hC).non h) hq
      generalize outR L (fun x => !x.rc.ended && orphanP M x.rc) k = O at hm hout hst hlen
      clear hx hor
      go_wp2_with fail
      refine st_region 8 Non [9] [] (fun _ _ _ _ => True) (fun _ _ _ _ => True) (fun _ _ v => v = .bool (hasN M x.rc.node)) (fun _ => True) (by kernel_rfl) (by kernel_rfl) (fun _ h => h.elim) trivial (fun _ _ _ => trivial) ?_
      repeat (first | (refine st_pass (by rfl) ?_; simp only [Act.put, List.setIfInBounds_toArray, List.set_cons_succ, List.set_cons_zero]) | (refine st_plain (Non) (wr) rfl rfl (f := ?_) (by rfl) rfl rfl (fun w hC hG => ?_) ?_; rotate_left; (clear hG; first | (go_simp; done) | (go_simp; with_reducible rfl) | (simp [*, go_sem, ↓IntWalk.iteOmega]; done) | (simp [*, go_sem, ↓IntWalk.iteOmega]; with_reducible rfl)); simp only [Act.put, List.setIfInBounds_toArray, List.set_cons_succ, List.set_cons_zero]))
      refine st_major (Non) (wr) rfl rfl (by rfl) rfl (⟨_, rfl⟩) (fun _ _ _ _ _ _ => trivial) (fun _ _ _ _ => trivial) (fun w hC hG hS => settle_of (r2 := ?_) ?_ ?_) ?_
      rotate_left
      (first | (go_simp; done) | (go_simp; rfl))
      · refine settle_enter ((hcm _ hC).mono ?_)
        rintro e w6 ⟨rfl, hc6⟩
        exact ⟨_, rfl, rfl, hc6, trivial, trivial⟩
      · rintro v4 rfl
        simp only [Act.put, List.setIfInBounds_toArray, List.set_cons_succ, List.set_cons_zero]
        repeat (first | (refine st_pass (by rfl) ?_; simp only [Act.put, List.setIfInBounds_toArray, List.set_cons_succ, List.set_cons_zero]) | (refine st_plain (Non) (wr) rfl rfl (f := ?_) (by rfl) rfl rfl (fun w hC hG => ?_) ?_; rotate_left; (clear hG; first | (go_simp; done) | (go_simp; with_reducible rfl) | (simp [*, go_sem, ↓IntWalk.iteOmega]; done) | (simp [*, go_sem, ↓IntWalk.iteOmega]; with_reducible rfl)); simp only [Act.put, List.setIfInBounds_toArray, List.set_cons_succ, List.set_cons_zero]))
        refine st_end Non wr rfl rfl (fun w5 hC5 _ hG => ?_)
        have cg := fg w5 hC5
        have x05 := hC5.cell x0 id
        have x45 := hC5.cell x4 id
        have hout5 := hout.non hC5
        have hCC := hC.non hC5
        have hbl5 : gb < w5.heap.size := by have := hC5.size; have hb2 : gb < wr.heap.size := hbl; omega
        have hgl5 : g < w5.heap.size := by have := hC5.size; omega
        clear hG f1 fg fv0 fv1 x0 x4 hbl hcm c1 hgl2 hC5 hout hC
        cases he : x.rc.ended with
        | true =>
          have hst2 : Hid (outR L (fun x => !x.rc.ended && orphanP M x.rc) (k + 1) = O) := by show _ = _; rw [hst, he]; simp
          rw [he] at x45
          clear hst he hop
          go_wp2_with fail
          go_roundw
          case rel => exact ⟨k + 1, m, by omega, by go_num, by rw [hst2.out]; exact hm, by rw [hst2.out]; exact hout5, hCC⟩
          case measure => simp [intOf]; omega
        | false =>
          rw [he] at x45
          cases hh : hasN M x.rc.node with
          | true =>
            have hst2 : Hid (outR L (fun x => !x.rc.ended && orphanP M x.rc) (k + 1) = O) := by show _ = _; rw [hst, hop, hh]; simp
            clear hst he hop hh
            go_wp2_with fail
            go_roundw
            case rel => exact ⟨k + 1, m, by omega, by go_num, by rw [hst2.out]; exact hm, by rw [hst2.out]; exact hout5, hCC⟩
            case measure => simp [intOf]; omega
          | false =>
            have hst2 : Hid (outR L (fun x => !x.rc.ended && orphanP M x.rc) (k + 1) = riseS x.id O) := by show _ = _; rw [hst, hop, hh, he]; rfl
            have hPut := putS_any w5 w.heap.size _ m O x.id hout5 (by have := hCC.size; have := hc1.size; omega) (by omega)
            clear hst he hop hh
            go_wp2_with fail
            refine hPut.mono ?_
            clear hPut
            rintro e w8 ⟨v8, n8, rfl, ho8, hc8, _⟩
            have hn8 : Hid (n8 = (riseS x.id O).length) := ho8.lenS2
            clear x05 x45 cg hbl5 hgl5
            go_wp2_with fail
            go_roundw
            case rel => exact ⟨k + 1, n8, by omega, by go_num, by rw [hst2.out]; exact hn8, by rw [hst2.out]; exact ho8, hCC.non hc8⟩
            case measure => simp [intOf]; omega
    · have hmem := outR_mem Hnd.out (orphanP M) (k := k) (by have := hn.out; omega)
      have hris : RisesS (outR L (fun x => !x.rc.ended && orphanP M x.rc) k) := (risenS_spec _).1
      have Hmem := Lib.hid hmem
      have Hris := Lib.hid hris
      clear hmem hris hm
      obtain ⟨A3, c3, rfl, _⟩ := hout.open_
      go_wp2_with fail
      go_ret
      exact ⟨A3, m, c3, _, rfl, Hris.out, Hmem.out, hout, hc1.non hC⟩

/-- What Held answers. -/
def heldA (s : LS) (a : ByteArray) : Value := match goR s a with | some r => .agg #[.string a, .int .i64 r.node, .int .i64 r.epoch] | none => .agg #[.string ⟨#[]⟩, .int .i64 0, .int .i64 0]
def heldB (s : LS) (a : ByteArray) : Bool := (goR s a).isSome
def HdPost (w : World) (s : LS) (a : ByteArray) (e : Ending) (w2 : World) : Prop := e = .returned (.tuple #[heldA s a, .bool (heldB s a)]) ∧ Chg Non w w2

set_option maxRecDepth 100000 in
set_option maxHeartbeats 2000000 in
theorem linHeld_any (w : World) (F : Nat → Prop) (g n : Nat) (s : LS) (h : Ln w F g n s) (a : ByteArray) (ha : a.size ≤ maxLen) :
    Calls Try.prog 24 #[.pointer (some ⟨g, 0, none⟩), .string a] w (HdPost w s a) := by
  obtain ⟨m, f, h⟩ := h
  obtain ⟨w1, hw1⟩ : ∃ w1, w.alloc (.cells #[.string ⟨#[]⟩, .int .i64 0, .int .i64 0] 55) = w1 := ⟨_, rfl⟩
  have hc1 : Chg Non w w1 := hw1 ▸ (Chg.refl _ _).alloc _
  have hbR : Blk w1 w.heap.size 55 #[.string ⟨#[]⟩, .int .i64 0, .int .i64 0] := hw1 ▸ Blk.new _ _ _
  have h := h.non hc1
  have hG := goes_any w1 F g m n f s h a ha
  have c0 : w1.cell? ⟨g, 0, none⟩ = some (.map (some m)) := h.hb.cell 0
  have gl := h.hb.lt
  have H := Lib.hid h
  have r0 := hbR.cell 0
  have r1 := hbR.cell 1
  have r2 := hbR.cell 2
  have s0 := hbR.frozen 0
  have s1 := hbR.frozen 1
  have s2 := hbR.frozen 2
  have rl := hbR.lt
  simp only [List.getElem?_toArray, List.getElem?_cons_zero, List.getElem?_cons_succ] at r0 r1 r2
  clear h
  go_enter Try.func24, Try.ntmps24
  go_wp2_with fail
  refine hG.mono ?_
  clear hG hw1
  rintro e w2 ⟨rfl, ⟨rfl, hr⟩ | ⟨b, r, rfl, hf, hs, hr⟩⟩
  · have hA : heldA s a = .agg #[.string ⟨#[]⟩, .int .i64 0, .int .i64 0] := by unfold heldA; rw [hr]
    have hB : heldB s a = false := by unfold heldB; rw [hr]; rfl
    have HA := Lib.hid hA
    have HB := Lib.hid hB
    have hb4 := ((hbR.put 0 (.string ⟨#[]⟩)).put 1 (.int .i64 0)).put 2 (.int .i64 0)
    simp only [List.setIfInBounds_toArray, List.set_cons_succ, List.set_cons_zero] at hb4
    have t0 := hb4.cell 0
    have t1 := hb4.cell 1
    have t2 := hb4.cell 2
    simp only [List.getElem?_toArray, List.getElem?_cons_zero, List.getElem?_cons_succ] at t0 t1 t2
    have hC4 := ((hc1.setCell (p := ⟨w.heap.size, 0, none⟩) (.inr (by simp)) (.string ⟨#[]⟩)).setCell (p := ⟨w.heap.size, 1, none⟩) (.inr (by simp)) (.int .i64 0)).setCell (p := ⟨w.heap.size, 2, none⟩) (.inr (by simp)) (.int .i64 0)
    clear hA hB hr hb4 hbR
    go_wp2_with fail
    exact bodyPost_ret (v := .tuple #[.agg #[.string ⟨#[]⟩, .int .i64 0, .int .i64 0], .bool false]) (by simp [results, Try.results24, go_sem, t0, t1, t2]) rfl ⟨by rw [HA.out, HB.out], hC4⟩
  · obtain ⟨r', hs', hb, hF⟩ := H.out.recs a b hf
    obtain rfl : r = r' := by rw [hs] at hs'; exact Option.some.inj hs'
    have hA : heldA s a = .agg #[.string a, .int .i64 r.node, .int .i64 r.epoch] := by unfold heldA; rw [hr]
    have hB : heldB s a = true := by unfold heldB; rw [hr]; rfl
    have HA := Lib.hid hA
    have HB := Lib.hid hB
    have hne : b ≠ w.heap.size := fun e => hb.apart hbR (by decide) e
    have k0 : ∀ wx, Chg (fun c => c = w.heap.size) w1 wx → wx.cell? ⟨b, 0, none⟩ = some (.int .i64 r.node) := fun wx h => (hb.chg h hne).cell 0
    have k1 : ∀ wx, Chg (fun c => c = w.heap.size) w1 wx → wx.cell? ⟨b, 1, none⟩ = some (.int .i64 r.epoch) := fun wx h => (hb.chg h hne).cell 1
    have bl := hb.lt
    clear hA hB hr hf hs hs' r0 r1 r2 s0 s1 s2
    go_wp2_with fail
    refine st_region 8 (fun c => c = w.heap.size) [10] [] (fun _ _ _ w2 => Blk w2 w.heap.size 55 #[.string a, .int .i64 r.node, .int .i64 r.epoch]) (fun _ _ _ _ => True) (fun _ _ v => v = undef) (fun w2 => Blk w2 w.heap.size 55 #[.string ⟨#[]⟩, .int .i64 0, .int .i64 0]) (by kernel_rfl) (by kernel_rfl) (fun b e => by rw [e]; exact rl) hbR (fun _ _ h => h.alloc _) ?_
    repeat (first | (refine st_pass (by rfl) ?_; simp only [Act.put, List.setIfInBounds_toArray, List.set_cons_succ, List.set_cons_zero]) | (refine st_plain (fun c => c = w.heap.size) (w1) rfl rfl (f := ?_) (by rfl) rfl rfl (fun w hC hG => ?_) ?_; rotate_left; (clear hG; first | (go_simp; done) | (go_simp; with_reducible rfl) | (simp [*, go_sem, ↓IntWalk.iteOmega]; done) | (simp [*, go_sem, ↓IntWalk.iteOmega]; with_reducible rfl)); simp only [Act.put, List.setIfInBounds_toArray, List.set_cons_succ, List.set_cons_zero]))
    refine st_major (fun c => c = w.heap.size) w1 rfl rfl (by rfl) rfl ⟨_, rfl⟩ (fun _ _ _ _ _ _ => trivial) (fun v wx ob h => h.alloc ob) (fun wx hC hG hS => ?_) ?_
    · have r0 := hS.cell 0
      have r1 := hS.cell 1
      have r2 := hS.cell 2
      have s0 := hS.frozen 0
      have s1 := hS.frozen 1
      have s2 := hS.frozen 2
      simp only [List.getElem?_toArray, List.getElem?_cons_zero, List.getElem?_cons_succ] at r0 r1 r2
      have hb4 := ((hS.put 0 (.string a)).put 1 (.int .i64 r.node)).put 2 (.int .i64 r.epoch)
      simp only [List.setIfInBounds_toArray, List.set_cons_succ, List.set_cons_zero] at hb4
      clear hG k0 k1
      refine settle_of (r2 := .ok .skip (((wx.setCell ⟨w.heap.size, 0, none⟩ (.string a)).setCell ⟨w.heap.size, 1, none⟩ (.int .i64 r.node)).setCell ⟨w.heap.size, 2, none⟩ (.int .i64 r.epoch))) ?_ (settle_skip ⟨rfl, (((Chg.refl _ _).set1 0 _).set1 1 _).set1 2 _, hb4, trivial⟩)
      first | (go_simp; done) | (go_simp; rfl)
    · rintro v4 rfl
      simp only [Act.put, List.setIfInBounds_toArray, List.set_cons_succ, List.set_cons_zero]
      repeat (first | (refine st_pass (by rfl) ?_; simp only [Act.put, List.setIfInBounds_toArray, List.set_cons_succ, List.set_cons_zero]) | (refine st_plain (fun c => c = w.heap.size) (w1) rfl rfl (f := ?_) (by rfl) rfl rfl (fun w hC hG => ?_) ?_; rotate_left; (clear hG; first | (go_simp; done) | (go_simp; with_reducible rfl) | (simp [*, go_sem, ↓IntWalk.iteOmega]; done) | (simp [*, go_sem, ↓IntWalk.iteOmega]; with_reducible rfl)); simp only [Act.put, List.setIfInBounds_toArray, List.set_cons_succ, List.set_cons_zero]))
      refine st_end (fun c => c = w.heap.size) w1 rfl rfl (fun w5 hC5 hS5 hG => ?_)
      have hS5 : Blk w5 w.heap.size 55 #[.string a, .int .i64 r.node, .int .i64 r.epoch] := hS5
      have t0 := hS5.cell 0
      have t1 := hS5.cell 1
      have t2 := hS5.cell 2
      simp only [List.getElem?_toArray, List.getElem?_cons_zero, List.getElem?_cons_succ] at t0 t1 t2
      have hC6 : Chg Non w w5 := hc1.trans2 hC5 (fun b e => .inr (by have e : b = w.heap.size := e; omega))
      clear hG k0 k1 hS5 hC5
      try go_wp2_with fail
      exact bodyPost_ret (v := .tuple #[.agg #[.string a, .int .i64 r.node, .int .i64 r.epoch], .bool true]) (by simp [results, Try.results24, go_sem, t0, t1, t2]) rfl ⟨by rw [HA.out, HB.out], hC6⟩
end Go.Proofs.Ytbkjpeelabdkfaa
