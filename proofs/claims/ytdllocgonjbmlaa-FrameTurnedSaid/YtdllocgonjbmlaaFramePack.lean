/-
  frame.Pack, gleanerref10.PackFrame.
-/
import Derived.Test.YtdllocgonjbmlaaFrame
namespace Go.Proofs.Ytdllocgonjbmlaa
open Go.RowKit
set_option linter.unusedVariables false
set_option linter.unusedSimpArgs false

theorem Fr.err_bad {f : Fr} (h : f.fine = false) : f.err = 1 := by unfold Fr.err; rw [if_neg (by rw [h]; decide)]
theorem Fr.err_long {f : Fr} (h : f.fine = true) (h2 : 4096 < f.load.length) : f.err = 3 := by unfold Fr.err; rw [if_pos h, if_pos h2]
theorem Fr.pack_err {f : Fr} (h : f.err ≠ 0) : f.pack = [] := by unfold Fr.pack; rw [if_neg h]
theorem Fr.pack_ok {f : Fr} (h : f.err = 0) : f.pack = f.bytes := by unfold Fr.pack; rw [if_pos h]

theorem Txts.one {w : World} {g : Nat} {t : TypeId} {B : Option Addr} {m c : Nat} {L : List UInt8} (h : Blk w g t #[.slice B m c]) (hm : m ≤ c) (hc : c ≤ maxLen) (hr : Rds w 1 B m (bv L)) : Txts w (some ⟨g, 0, none⟩) 1 [L] := by
  refine ⟨rfl, fun k M hk => ?_⟩
  cases k with
  | zero =>
    simp at hk
    subst hk
    exact ⟨⟨g, 0, none⟩, B, m, c, rfl, h.cell 0, hm, hc, hr⟩
  | succ k => simp at hk
theorem Fr.body_eq (f : Fr) : 70 :: nums f.ints ++ texts [f.load] = f.body := by simp [texts, Fr.body, Fr.tail]
theorem Fr.ints_len (f : Fr) : (nums f.ints).length ≤ 50 := by
  have := nums_len f.ints
  simpa [Fr.ints] using this
theorem Fr.text_len (f : Fr) : (texts [f.load]).length ≤ 10 + f.load.length := by
  have := (num_len (f.load.length : Int)).2
  simp only [texts, text, List.flatMap_cons, List.flatMap_nil, List.append_nil, List.length_append]
  omega

set_option maxRecDepth 100000 in
set_option maxHeartbeats 1000000 in
theorem pack_any (w : World) (f : Fr) (A : Option Addr) (n c : Nat) (hr : Rds w 1 A n (bv f.load)) (hc : n ≤ c) (hm : c ≤ maxLen) :
    Calls Try.prog 9 #[frV f A n c] w fun e w2 => ∃ v, e = .returned (.tuple #[v, .int .i64 f.err]) ∧ Own8 w2 w.heap.size v f.pack ∧ Chg Non w w2 := by
  have Hnl := Lib.hid hr.lenMap
  obtain ⟨w1, hw1⟩ : ∃ w1, w.alloc (.cells (frC f A n c) 24) = w1 := ⟨_, rfl⟩
  have hc1 : Chg Non w w1 := hw1 ▸ (Chg.refl _ _).alloc _
  have hb1 : Blk w1 w.heap.size 24 (frC f A n c) := hw1 ▸ Blk.new _ _ _
  have x0 := hb1.cell 0
  have x1 := hb1.cell 1
  have x2 := hb1.cell 2
  have x3 := hb1.cell 3
  have x4 := hb1.cell 4
  have x5 := hb1.cell 5
  simp only [frC, List.getElem?_toArray, List.getElem?_cons_zero, List.getElem?_cons_succ] at x0 x1 x2 x3 x4 x5
  go_enter Try.func9, Try.ntmps9
  go_wp2_with fail
  refine (fine_any _ f A n c).mono ?_
  rintro e w2 ⟨rfl, hc2⟩
  have y0 := hc2.cell x0 id
  have y1 := hc2.cell x1 id
  have y2 := hc2.cell x2 id
  have y3 := hc2.cell x3 id
  have y4 := hc2.cell x4 id
  have y5 := hc2.cell x5 id
  have hC2 := hc1.non hc2
  clear hw1 x0 x1 x2 x3 x4 x5 hb1 hc1 hc2
  cases hf : f.fine with
  | false =>
    have He := Lib.hid (Fr.err_bad hf)
    have Hp := Lib.hid (Fr.pack_err (f := f) (by rw [He.out]; decide))
    go_wp2_with fail
    go_ret2
    exact ⟨_, by rw [He.out]; rfl, by rw [Hp.out]; exact Own8.nil _ _, hC2⟩
  | true =>
    by_cases hl : 4096 < n
    · have He := Lib.hid (Fr.err_long hf (by have := Hnl.out; omega))
      have Hp := Lib.hid (Fr.pack_err (f := f) (by rw [He.out]; decide))
      clear hf
      go_wp2_with fail
      go_ret2
      exact ⟨_, by rw [He.out]; rfl, by rw [Hp.out]; exact Own8.nil _ _, hC2⟩
    · have He := Lib.hid (Fr.err0.2 ⟨hf, by have := Hnl.out; omega⟩)
      have Hp := Lib.hid (Fr.pack_ok (f := f) He.out)
      have Hi := Lib.hid (Fr.fine_i64 hf)
      have hr2 := hr.non hC2
      go_wp2_with fail
      have k0 : ∀ w, Chg Non w2 w → _ := fun w h => h.cell y0 id
      have k1 : ∀ w, Chg Non w2 w → _ := fun w h => h.cell y1 id
      have k2 : ∀ w, Chg Non w2 w → _ := fun w h => h.cell y2 id
      have k3 : ∀ w, Chg Non w2 w → _ := fun w h => h.cell y3 id
      have k4 : ∀ w, Chg Non w2 w → _ := fun w h => h.cell y4 id
      have k5 : ∀ w, Chg Non w2 w → _ := fun w h => h.cell y5 id
      clear hf y0 y1 y2 y3 y4 y5
      have hs2 := hC2.size
      refine st_region 8 Non [12, 16] [0, 11, 15] (fun _ _ _ _ => True) (fun i _ v w => if i = 12 then Own8 w w2.heap.size v (70 :: nums f.ints) else Own8 w w2.heap.size v f.body) (fun _ _ v => ∃ A n c, v = .slice A n c) (fun _ => True) (by kernel_rfl) (by kernel_rfl) (fun _ h => h.elim) trivial (fun _ _ _ => trivial) ?_
      refine st_minor Non w2 rfl rfl (ob := .cells #[.int .u8 70] 5) (kd := some (1, 1)) (by rfl) rfl rfl (fun w hC hG => by clear hG; go_simp; rfl) (fun g => ?_)
      simp only [Act.put, List.setIfInBounds_toArray, List.set_cons_succ, List.set_cons_zero]
      repeat (first | (refine st_pass (by rfl) ?_; simp only [Act.put, List.setIfInBounds_toArray, List.set_cons_succ, List.set_cons_zero]) | (refine st_plain (Non) (w2) rfl rfl (f := ?_) (by rfl) rfl rfl (fun w hC hG => ?_) ?_; rotate_left; (clear hG; first | (go_simp; done) | (go_simp; with_reducible rfl) | (simp [*, go_sem, ↓IntWalk.iteOmega]; done) | (simp [*, go_sem, ↓IntWalk.iteOmega]; with_reducible rfl)); simp only [Act.put, List.setIfInBounds_toArray, List.set_cons_succ, List.set_cons_zero]))
      refine st_minor Non w2 rfl rfl (ob := .cells #[.int .i64 f.a, .int .i64 f.b, .int .i64 f.c, .int .i64 f.d, .int .i64 f.e] 3) (kd := some (5, 5)) (by rfl) rfl rfl (fun w hC hG => by clear hG; go_simp; rfl) (fun g2 => ?_)
      simp only [Act.put, List.setIfInBounds_toArray, List.set_cons_succ, List.set_cons_zero]
      refine st_major (Non) (w2) rfl rfl (by rfl) rfl (⟨.slice none 0 0, none, 0, 0, rfl⟩) (fun v w w2 _ h2 h => Own8.non h h2) (fun _ _ _ _ => trivial) (fun w hC hG hS => settle_of (r2 := ?_) ?_ ?_) ?_
      rotate_left
      (first | (go_simp; done) | (go_simp; rfl))
      · have hB : Rds w 1 (some ⟨g, 0, none⟩) 1 (bv [70]) := Rds.block (cs := #[.int .u8 70]) (show w.heap[g]? = _ from (hG 0 rfl).2) rfl
        have hB2 : Rds w 1 (some ⟨g2, 0, none⟩) 5 (iv f.ints) := Rds.block (cs := #[.int .i64 f.a, .int .i64 f.b, .int .i64 f.c, .int .i64 f.d, .int .i64 f.e]) (show w.heap[g2]? = _ from (hG 11 rfl).2) rfl
        refine settle_enter ((packInt_any _ _ _ [70] _ _ _ f.ints _ hB hB2 (Fr.mem_i64 Hi.out) (by simp [Fr.ints])).mono ?_)
        rintro e w6 ⟨v6, rfl, h8, hc6⟩
        obtain ⟨A6, n6, c6, hv6, _⟩ := h8.open_
        exact ⟨v6, rfl, ⟨A6, n6, c6, hv6⟩, hc6, trivial, own_mono h8 hC.size⟩
      · rintro v4 ⟨A6, n6, c6, rfl⟩
        simp only [Act.put, List.setIfInBounds_toArray, List.set_cons_succ, List.set_cons_zero]
        repeat (first | (refine st_pass (by rfl) ?_; simp only [Act.put, List.setIfInBounds_toArray, List.set_cons_succ, List.set_cons_zero]) | (refine st_plain (Non) (w2) rfl rfl (f := ?_) (by rfl) rfl rfl (fun w hC hG => ?_) ?_; rotate_left; (clear hG; first | (go_simp; done) | (go_simp; with_reducible rfl) | (simp [*, go_sem, ↓IntWalk.iteOmega]; done) | (simp [*, go_sem, ↓IntWalk.iteOmega]; with_reducible rfl)); simp only [Act.put, List.setIfInBounds_toArray, List.set_cons_succ, List.set_cons_zero]))
        refine st_minor Non w2 rfl rfl (ob := .cells #[.slice A n c] 22) (kd := some (1, 1)) (by rfl) rfl rfl (fun w hC hG => by clear hG; go_simp; rfl) (fun g3 => ?_)
        simp only [Act.put, List.setIfInBounds_toArray, List.set_cons_succ, List.set_cons_zero]
        refine st_major (Non) (w2) rfl rfl (by rfl) rfl (⟨.slice none 0 0, none, 0, 0, rfl⟩) (fun v w w2 _ h2 h => Own8.non h h2) (fun _ _ _ _ => trivial) (fun w hC hG hS => settle_of (r2 := ?_) ?_ ?_) ?_
        rotate_left
        (first | (go_simp; done) | (go_simp; rfl))
        · have hB : Txts w (some ⟨g3, 0, none⟩) 1 [f.load] := Txts.one (show Blk w g3 22 _ from (hG 15 rfl).2) hc hm (hr2.non hC)
          obtain ⟨A8, n8, c8, e8, _, _, _, hr8⟩ := (show Own8 w w2.heap.size (.slice A6 n6 c6) (70 :: nums f.ints) from hG 12 rfl).open_
          cases e8
          have hl1 := f.ints_len
          have hl2 := f.text_len
          refine settle_enter ((packBytes_any _ _ _ (70 :: nums f.ints) _ _ _ [f.load] _ hr8 hB (by have := Hnl.out; simp only [List.length_cons]; omega)).mono ?_)
          rintro e w6 ⟨v6, rfl, h8, hc6⟩
          obtain ⟨A6, n6, c6, hv6, _⟩ := h8.open_
          refine ⟨v6, rfl, ⟨A6, n6, c6, hv6⟩, hc6, trivial, ?_⟩
          rw [f.body_eq] at h8
          exact own_mono h8 hC.size
        · rintro v5 ⟨A7, n7, c7, rfl⟩
          simp only [Act.put, List.setIfInBounds_toArray, List.set_cons_succ, List.set_cons_zero]
          repeat (first | (refine st_pass (by rfl) ?_; simp only [Act.put, List.setIfInBounds_toArray, List.set_cons_succ, List.set_cons_zero]) | (refine st_plain (Non) (w2) rfl rfl (f := ?_) (by rfl) rfl rfl (fun w hC hG => ?_) ?_; rotate_left; (clear hG; first | (go_simp; done) | (go_simp; with_reducible rfl) | (simp [*, go_sem, ↓IntWalk.iteOmega]; done) | (simp [*, go_sem, ↓IntWalk.iteOmega]; with_reducible rfl)); simp only [Act.put, List.setIfInBounds_toArray, List.set_cons_succ, List.set_cons_zero]))
          refine st_end Non w2 rfl rfl (fun w5 hC5 _ hG => ?_)
          have h8 : Own8 w5 w.heap.size (.slice A7 n7 c7) f.body := own_mono (show Own8 w5 w2.heap.size (.slice A7 n7 c7) _ from hG 16) hs2
          have hC6 := hC2.non hC5
          have hn7 : n7 = f.body.length := h8.rdsN.lenMap
          have hbl : f.body.length ≤ 5000 := by
            have h1 := f.tail_len
            have h2 := Hnl.out
            show f.tail.length + 1 ≤ _
            omega
          clear hG k0 k1 k2 k3 k4 k5
          have Hn7 := Lib.hid hn7
          clear hn7
          go_wp2_with fail
          refine (frameSum_any w5 A7 n7 c7 f.body h8.rdsN (by have := Hn7.out; omega)).mono ?_
          rintro e w6 ⟨g6, rfl, h9, hc6⟩
          have h10 := h8.non hc6
          have hC7 := hC6.non hc6
          go_wp2_with (at_builtin; refine app8b rfl (.tmp 31) (.tmp 33) rfl h10 rfl h9.rdsN rfl ?_ ?_ ?_; (next => (simp only [le4_len]; omega)); (next => exact hC7.size); intro v7 w7 h11 h12 _)
          go_ret2
          exact ⟨_, by rw [He.out]; rfl, by rw [Hp.out]; exact h11, h10.chgApp hC7 (Nat.le_refl _) h12⟩
end Go.Proofs.Ytdllocgonjbmlaa
