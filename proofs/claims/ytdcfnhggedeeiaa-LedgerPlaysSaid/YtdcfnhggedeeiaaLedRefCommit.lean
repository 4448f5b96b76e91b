/-
  gleanerref14.Ledger: Commit of a new name.
-/
import Derived.Test.YtdcfnhggedeeiaaLedRef
namespace Go.Proofs.Ytdcfnhggedeeiaa
open Go.RowKit
set_option linter.unusedVariables false
set_option linter.unusedSimpArgs false

set_option maxRecDepth 100000 in
set_option maxHeartbeats 2000000 in
theorem rlCommit_yes (w : World) (F : Nat → Prop) (g : Nat) (T : List Cm) (W : List Wn) (nm : ByteArray) (x y : Int) (h : Rl w F g T W) (hnm : nm.size ≤ 1000) (hT : T.length ≤ 100000) (hv : vid nm = true) (hno : atI T nm = none) :
    Calls Try.prog 15 #[.pointer (some ⟨g, 0, none⟩), .string nm, .agg #[.int .i64 x, .int .i64 y]] w (RlPost w F g (.bool true) (T ++ [(nm, x, y)]) W) := by
  have hnz : nm.size ≤ 9223372036854775807 := by omega
  obtain ⟨s0, hs0⟩ : ∃ s0, w.heap.size = s0 := ⟨_, rfl⟩
  obtain ⟨w1, hw1⟩ : ∃ w1, w.alloc (.cells #[.int .i64 x, .int .i64 y] 31) = w1 := ⟨_, rfl⟩
  have hcA : Chg Non w w1 := hw1 ▸ (Chg.refl _ _).alloc _
  have hbx : Blk w1 s0 31 #[.int .i64 x, .int .i64 y] := hw1 ▸ hs0 ▸ Blk.new _ _ _
  have hA := h.non hcA
  have hgl : g < w.heap.size := by obtain ⟨_, _, _, _, _, _, h, _⟩ := h; exact h.hb.lt
  have Hv := Lib.hid hv
  have H := Lib.hid (rlGet_none w1 F g T W nm hA hno hT)
  clear hno hA hv
  go_enter Try.func15, Try.ntmps15
  go_wp2_with fail
  refine H.out.mono ?_
  rintro e w2 ⟨rfl, hc2⟩
  have hC2 := hcA.non hc2
  have hbx2 := hbx.non hc2
  clear hc2 hcA hbx hw1
  have hgl2 : g < w2.heap.size := by have := hC2.size; omega
  go_wp2_with fail
  obtain ⟨w3, hw3⟩ : ∃ w3, w2.alloc (.cells #[.int .i64 0, .int .i64 0] 31) = w3 := ⟨_, rfl⟩
  have hc3 : Chg Non w2 w3 := hw3 ▸ (Chg.refl _ _).alloc _
  have hC3 := hC2.non hc3
  have hbx3 := hbx2.non hc3
  obtain ⟨A, n, c, A2, n2, c2, h, hF⟩ := h.non hC3
  have Hp := Lib.hid hF
  have hn := h.hn
  have hnl : n ≤ 100000 := by have := hn.out; omega
  have hgl3 := h.hb.lt
  have hTg := h.gT
  have hOl : ∀ b, (Value.slice A n c).ownBlock = some b → b < w3.heap.size := fun b hb => (h.hT.lt hb).2
  have hOs : ∀ b, (Value.slice A n c).ownBlock = some b → b ≠ s0 := fun b hb e => h.hT.apart hbx3 (by decide) (e ▸ hb)
  have k0 : ∀ wx, Chg (fun b => (Value.slice A n c).ownBlock = some b) w3 wx → wx.cell? ⟨g, 0, none⟩ = some (.slice A n c) := fun wx hx => hx.cell (h.hb.cell 0) (fun e => hTg _ e rfl)
  have kx0 : ∀ wx, Chg (fun b => (Value.slice A n c).ownBlock = some b) w3 wx → wx.cell? ⟨s0, 0, none⟩ = some (.int .i64 x) := fun wx hx => hx.cell (hbx3.cell 0) (fun e => hOs _ e rfl)
  have kx1 : ∀ wx, Chg (fun b => (Value.slice A n c).ownBlock = some b) w3 wx → wx.cell? ⟨s0, 1, none⟩ = some (.int .i64 y) := fun wx hx => hx.cell (hbx3.cell 1) (fun e => hOs _ e rfl)
  have hsl3 := hbx3.lt
  have HA := Lib.hid h
  have hoT := h.hT
  clear hbx2 hbx3 hC2 hc3 h hF
  refine (refValid_any nm _ hnz).mono ?_
  rintro e w9 ⟨rfl, rfl⟩
  rw [Hv.out]
  go_wp2_with fail
  clear hw3
  refine st_region_tail 8 12 (fun b => (Value.slice A n c).ownBlock = some b) [9] [8] (fun _ _ v wx => OwnR rkC wx 0 v (n + 1) (cv T ++ cellC (nm, x, y)) ∧ (∀ b, v.ownBlock = some b → (Value.slice A n c).ownBlock = some b ∨ w3.heap.size ≤ b)) (fun _ _ _ _ => True) (fun _ _ v => ∃ A n c, v = .slice A n c) (fun wx => OwnR rkC wx 0 (.slice A n c) n (cv T)) (by kernel_rfl) (by kernel_rfl) (by kernel_rfl) hOl hoT (fun _ _ h => h.alloc _) ?_
  repeat (first | (refine st_pass (by rfl) ?_; simp only [Act.put, List.setIfInBounds_toArray, List.set_cons_succ, List.set_cons_zero]) | (refine st_plain (fun b => (Value.slice A n c).ownBlock = some b) (w3) rfl rfl (f := ?_) (by rfl) rfl rfl (fun w hC hG => ?_) ?_; rotate_left; (clear hG; first | (go_simp; done) | (go_simp; with_reducible rfl) | (simp [*, go_sem, ↓IntWalk.iteOmega]; done) | (simp [*, go_sem, ↓IntWalk.iteOmega]; with_reducible rfl)); simp only [Act.put, List.setIfInBounds_toArray, List.set_cons_succ, List.set_cons_zero]))
  refine st_minor (fun b => (Value.slice A n c).ownBlock = some b) w3 rfl rfl (ob := .cells #[.string nm, .int .i64 x, .int .i64 y] 33) (kd := some (1, 1)) (by rfl) rfl rfl (fun w hC hG => by clear hG; go_simp; rfl) (fun g2 => ?_)
  simp only [Act.put, List.setIfInBounds_toArray, List.set_cons_succ, List.set_cons_zero]
  refine st_major (fun b => (Value.slice A n c).ownBlock = some b) (w3) rfl rfl (by rfl) rfl (⟨.slice none 0 0, none, 0, 0, rfl⟩) (fun _ _ _ _ _ _ => trivial) (fun v w ob h => ⟨h.1.alloc ob, h.2⟩) (fun w hC hG hS => ?_) ?_
  · have hB := Rds.blockN (m := 1) (size := 3) (show Blk w g2 33 #[.string nm, .int .i64 x, .int .i64 y] from (hG 8 rfl).2) rfl
    refine settle_appR (K := rkC) (.tmp 27) (.tmp 31) rfl hS rfl hB rfl (cellC_one (nm, x, y)) (by omega) (Nat.zero_le _) ?_
    intro v2 w2 h2 h3 h4
    obtain ⟨A2, c2, rfl, _⟩ := h2.open_
    refine ⟨⟨_, _, _, rfl⟩, h3, ⟨h2, fun b hb => ?_⟩, trivial⟩
    rcases h4 with h4 | h4
    · exact .inl (h4 ▸ hb)
    · rw [h4] at hb
      obtain rfl := Option.some.inj hb
      exact .inr hC.size
  · rintro v4 ⟨A4, n4, c4, rfl⟩
    simp only [Act.put, List.setIfInBounds_toArray, List.set_cons_succ, List.set_cons_zero]
    repeat (first | (refine st_pass (by rfl) ?_; simp only [Act.put, List.setIfInBounds_toArray, List.set_cons_succ, List.set_cons_zero]) | (refine st_plain (fun b => (Value.slice A n c).ownBlock = some b) (w3) rfl rfl (f := ?_) (by rfl) rfl rfl (fun w hC hG => ?_) ?_; rotate_left; (clear hG; first | (go_simp; done) | (go_simp; with_reducible rfl) | (simp [*, go_sem, ↓IntWalk.iteOmega]; done) | (simp [*, go_sem, ↓IntWalk.iteOmega]; with_reducible rfl)); simp only [Act.put, List.setIfInBounds_toArray, List.set_cons_succ, List.set_cons_zero]))
    refine st_tail (fun b => (Value.slice A n c).ownBlock = some b) w3 rfl rfl rfl (fun w7 hC7 hS7 _ => ?_)
    simp only [List.drop_succ_cons, List.drop_zero]
    obtain ⟨ho7, hob7⟩ := hS7
    obtain rfl : n4 = n + 1 := by
      obtain ⟨A5, c5, e, _⟩ := ho7.open_
      injection e
    have hb7 := HA.out.hb.chg hC7 (fun e => hTg _ e rfl)
    have c0 : w7.cell? ⟨g, 0, none⟩ = some (.slice A n c) := hb7.cell 0
    have f0 := hb7.frozen 0
    have hW7 := HA.out.hW.chg hC7 (fun b e e2 => (HA.out.hT.apart2 HA.out.hW (by decide)) b e2 e)
    have hR7 := fun x (hx : x ∈ W) => (HA.out.rows x hx).chg hC7 (fun b e e2 => (HA.out.hT.apart2 (HA.out.rows x hx) (by decide)) b e2 e)
    have hS1 : Chg (fun b => b = g) w7 (w7.setCell ⟨g, 0, none⟩ (.slice A4 (n + 1) c4)) := (Chg.refl _ _).set1 0 _
    have hfin : RlAt (w7.setCell ⟨g, 0, none⟩ (.slice A4 (n + 1) c4)) g (T ++ [(nm, x, y)]) W A4 (n + 1) c4 A2 n2 c2 := by
      have hb8 := hb7.put 0 (.slice A4 (n + 1) c4)
      simp only [List.setIfInBounds_toArray, List.set_cons_zero] at hb8
      refine ⟨?_, HA.out.hn2, hb8, ?_, hW7.chg hS1 (fun b hb e => HA.out.gW b hb e), fun x hx => (hR7 x hx).chg hS1 (fun b hb e => (hR7 x hx).apart hb7 (by decide) (by rw [← show b = g from e]; exact hb))⟩
      · show n + 1 = _
        rw [List.length_append, List.length_singleton, hn.out]
      · rw [cv_snoc]
        exact ho7.chg hS1 (fun b hb e => ho7.apart hb7 (by decide) (by rw [hb, show b = g from e]))
    have Hfin := Lib.hid hfin
    have hC8 : Chg F w (w7.setCell ⟨g, 0, none⟩ (.slice A4 (n + 1) c4)) := by
      rw [Hp.out]
      have e1 : Chg (RlF g (.slice A n c) (.slice A2 n2 c2) W) w w7 := hC3.of_non.trans2 hC7 (fun b e => .inl (.inr (.inl e)))
      exact e1.setCell (p := ⟨g, 0, none⟩) (.inl (.inl rfl)) _
    have hs3 := hC3.size
    clear hfin hb7 ho7 k0 kx0 kx1 hW7 hR7 hC7 hS1
    go_wp2_with fail
    go_ret
    refine ⟨rfl, _, ⟨A4, n + 1, c4, A2, n2, c2, Hfin.out, rfl⟩, ?_, hC8⟩
    rw [Hp.out]
    rintro b (rfl | hb | hb | hb)
    · exact .inl (.inl rfl)
    · exact (hob7 b hb).imp (fun h => .inr (.inl h)) (fun h => by omega)
    · exact .inl (.inr (.inr (.inl hb)))
    · exact .inl (.inr (.inr (.inr hb)))
end Go.Proofs.Ytdcfnhggedeeiaa
