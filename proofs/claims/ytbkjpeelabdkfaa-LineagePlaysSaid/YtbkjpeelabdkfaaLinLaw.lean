/-
  gleanerlaw24: the example of the document; what one task's record is behind Ended, Again.
-/
import Derived.Test.YtbkjpeelabdkfaaLinMore
import Derived.Test.YtbkjpeelabdkfaaVwRefWithout
namespace Go.Proofs.Ytbkjpeelabdkfaa
open Go.RowKit
set_option linter.unusedVariables false
set_option linter.unusedSimpArgs false

def s0 : LS := fun _ => none
theorem setR_self (s : LS) (a : ByteArray) (r : Rc) : setR s a r a = some r := by simp [setR]
theorem setR_other (s : LS) {a b : ByteArray} (r : Rc) (h : b ≠ a) : setR s a r b = s b := by simp [setR, h]
theorem setR_set (s : LS) (a : ByteArray) (r r2 : Rc) : setR (setR s a r) a r2 = setR s a r2 := by
  funext c
  by_cases h : c = a
  · subst h; simp [setR]
  · simp [setR, h]
theorem again_yes {s : LS} {a : ByteArray} {r : Rc} (hs : s a = some r) (he : r.ended = false) {epoch : Int} (hl : r.epoch < epoch) (node : Int) : againE s a node epoch = (true, setR s a ⟨node, epoch, r.times + 1, false⟩) := by
  unfold againE goR
  rw [hs]
  simp only [Option.filter, he, Bool.not_false, if_true]
  rw [if_pos hl]
theorem again_old {s : LS} {a : ByteArray} {r : Rc} (hs : s a = some r) {epoch : Int} (hl : epoch ≤ r.epoch) (node : Int) : againE s a node epoch = (false, s) := by
  unfold againE goR
  rw [hs]
  cases he : r.ended with
  | true => simp [Option.filter, he]
  | false =>
    simp only [Option.filter, he, Bool.not_false, if_true]
    rw [if_neg (by omega)]
theorem again_ended {s : LS} {a : ByteArray} {r : Rc} (hs : s a = some r) (he : r.ended = true) (node epoch : Int) : againE s a node epoch = (false, s) := by
  unfold againE goR
  rw [hs]
  simp [Option.filter, he]
theorem ended_yes {s : LS} {a : ByteArray} {r : Rc} (hs : s a = some r) (he : r.ended = false) : endedE s a = (true, setR s a { r with ended := true }) := by
  unfold endedE goR
  rw [hs]
  simp [Option.filter, he]
theorem ended_was {s : LS} {a : ByteArray} {r : Rc} (hs : s a = some r) (he : r.ended = true) : endedE s a = (false, s) := by
  unfold endedE goR
  rw [hs]
  simp [Option.filter, he]
theorem spawn_one (s : LS) {a : ByteArray} (h : vid a = true) (hs : s a = none) (node epoch : Int) : spawnN s node epoch [a] = (setR s a ⟨node, epoch, 1, false⟩, 1) := by
  unfold spawnN spawn1
  simp [h, hs]
theorem vid_root : vid ⟨#[]⟩ = true := by kernel_rfl
theorem first2_may : withoutE 1 (firstM 2) [1] = 0 := by decide
theorem first2_v : withoutV 1 (firstM 2) [1] = (2, [(0, 1)]) := by decide

set_option maxRecDepth 100000 in
set_option maxHeartbeats 4000000 in
theorem lin_alive (w : World) : Calls Try.prog 6 #[] w fun e w2 => e = .returned (.bool true) ∧ Chg Non w w2 := by
  go_enter Try.func6, Try.ntmps6
  go_wp2_with fail
  refine (linNew_any w).mono ?_
  rintro e w1 ⟨g, F, rfl, hL, hF, hC⟩
  unfold ptr
  obtain ⟨w2, hw2⟩ : ∃ w2, w1.alloc (.cells #[.string ⟨#[]⟩] 27) = w2 := ⟨_, rfl⟩
  have hc2 : Chg Non w1 w2 := hw2 ▸ (Chg.refl _ _).alloc _
  have hr2 : Rds w2 1 (some ⟨w1.heap.size, 0, none⟩) 1 (sv [⟨#[]⟩]) := hw2 ▸ Rds.one w1 _ _
  have hSp := linSpawned_any w2 F g 0 s0 (hL.non hc2) 1 1 (some ⟨w1.heap.size, 0, none⟩) 1 1 [⟨#[]⟩] hr2 (fun ad e _ h => by obtain rfl := Option.some.inj e; have := hL.lt h; simp at this) (by omega) (by omega) (by intro a ha; simp at ha; subst ha; decide)
  replace hC := hC.non hc2
  clear hr2 hL
  go_wp2_with fail
  refine hSp.mono ?_
  rintro e w3 ⟨rfl, F2, n2, hL, hn2, hF2, hc3⟩
  clear hSp
  rw [spawn_one s0 vid_root rfl] at hL ⊢
  have hz := hC.size
  replace hC : Chg Non w w3 := hC.trans2 hc3 (fun b e => .inr (hF b e))
  replace hF : ∀ b, F2 b → w.heap.size ≤ b := fun b hb => (hF2 b hb).elim (hF b) (fun h => by omega)
  have hn2 : n2 ≤ 1000 := by simp at hn2; omega
  clear hc2 hw2 hF2 hc3 hz
  go_wp2_with fail
  refine (refFirst_yes w3 2 (by decide) (by decide)).mono ?_
  rintro e w4 ⟨A, k, c, rfl, hW, _, hc4⟩
  obtain rfl : k = 2 := mv_len hW.rds
  obtain ⟨w5, hw5⟩ : ∃ w5, w4.alloc (.cells #[.int .i64 1, .slice A 2 c] 34) = w5 := ⟨_, rfl⟩
  have hc5 : Chg Non w3 w5 := hw5 ▸ hc4.alloc _
  have hbv : Blk w5 w4.heap.size 34 #[.int .i64 1, .slice A 2 c] := hw5 ▸ Blk.new _ _ _
  have hR : Rds w5 2 A 2 (mv (firstM 2)) := hw5 ▸ hW.rds.non ((Chg.refl Non w4).alloc (.cells #[.int .i64 1, .slice A 2 c] 34))
  replace hL := hL.non hc5
  replace hC := hC.non hc5
  have q0 : w5.cell? ⟨w4.heap.size, 0, none⟩ = some (.int .i64 1) := hbv.cell 0
  have q1 : w5.cell? ⟨w4.heap.size, 1, none⟩ = some (.slice A 2 c) := hbv.cell 1
  have ql := hbv.lt
  obtain ⟨w6, hw6⟩ : ∃ w6, w5.alloc (.cells #[.int .i64 1] 3) = w6 := ⟨_, rfl⟩
  have hc6 : Chg Non w5 w6 := hw6 ▸ (Chg.refl _ _).alloc _
  have hr6 : Rds w6 1 (some ⟨w5.heap.size, 0, none⟩) 1 (iv [1]) := hw6 ▸ Rds.one w5 _ _
  have hWo := refWithout_any w6 1 A 2 c (firstM 2) (some ⟨w5.heap.size, 0, none⟩) 1 1 [1] (hR.non hc6) (by omega) hr6 (by omega)
  rw [first2_may, first2_v] at hWo
  clear hc4 hW hc5 hbv hR hr6
  go_wp2_with fail
  refine hWo.mono ?_
  rintro e w7 ⟨A2, k2, c2, rfl, hW2, _, hc7⟩
  clear hWo q0 q1 ql
  obtain rfl : k2 = 1 := mv_len hW2.rds
  obtain ⟨w8, hw8⟩ : ∃ w8, w7.alloc (.cells #[.int .i64 2, .slice A2 1 c2] 34) = w8 := ⟨_, rfl⟩
  have hc8 : Chg Non w5 w8 := hw8 ▸ (hc6.non hc7).alloc _
  have hbv : Blk w8 w7.heap.size 34 #[.int .i64 2, .slice A2 1 c2] := hw8 ▸ Blk.new _ _ _
  have hR : Rds w8 2 A2 1 (mv [(0, 1)]) := hw8 ▸ hW2.rds.non ((Chg.refl Non w7).alloc (.cells #[.int .i64 2, .slice A2 1 c2] 34))
  replace hL := hL.non hc8
  replace hC := hC.non hc8
  have q0 : w8.cell? ⟨w7.heap.size, 0, none⟩ = some (.int .i64 2) := hbv.cell 0
  have q1 : w8.cell? ⟨w7.heap.size, 1, none⟩ = some (.slice A2 1 c2) := hbv.cell 1
  have ql := hbv.lt
  have hOr := linOrphans_any w8 F2 g n2 _ hL (by omega) 2 A2 1 c2 [(0, 1)] hR (by omega)
  clear hw5 hw6 hc6 hc7 hW2 hc8 hbv hR
  go_wp2_with fail
  refine hOr.mono ?_
  rintro e w9 ⟨A3, k3, c3, L, rfl, hri, hmem, hown, hc9⟩
  clear hOr q0 q1 ql hw8
  obtain rfl : L = [⟨#[]⟩] := by
    refine rises_eqS hri (List.pairwise_singleton _ _) fun z => ?_
    rw [hmem]
    unfold suchP
    by_cases hz : z = ⟨#[]⟩
    · subst hz
      rw [setR_self]
      simp [orphanP]
    · rw [setR_other _ _ hz]
      simp [s0, hz]
  have hlt : ∀ b, F2 b → b < w8.heap.size := fun b hb => hL.lt hb
  replace hL := hL.non hc9
  replace hC := hC.non hc9
  have hAg := linAgain_any w9 F2 g n2 _ hL (fun a r h => by
    by_cases ha : a = ⟨#[]⟩
    · subst ha
      rw [setR_self] at h
      obtain rfl := Option.some.inj h
      decide
    · rw [setR_other _ _ ha] at h; cases h) ⟨#[]⟩ (by decide) 0 2
  rw [again_yes (setR_self _ _ _) rfl (by decide), setR_set] at hAg
  go_wp2_with fail
  refine hAg.mono ?_
  rintro e w10 ⟨rfl, F3, n3, hL3, hn3, hF3, hc10⟩
  clear hAg hmem hri hc9
  obtain ⟨A', c', e', _, _, hr3, hob⟩ := hown.open_
  obtain rfl : k3 = 1 := by have := hr3.1; simpa [sv] using this.symm
  injection e' with e1 e2 e3
  subst e1 e3
  have hr10 : Rds w10 1 A3 1 (sv [⟨#[]⟩]) := Rds.chg hr3 hc10 (fun ad e h => by have := hlt _ h; have := (hown.lt (hob ad e)).1; omega)
  have hC10 : Chg Non w w10 := hC.trans2 hc10 (fun b e => .inr (hF b e))
  obtain ⟨w11, hw11⟩ : ∃ w11, w10.alloc (.cells #[.string ⟨#[]⟩] 27) = w11 := ⟨_, rfl⟩
  have hc11 : Chg Non w10 w11 := hw11 ▸ (Chg.refl _ _).alloc _
  have hr11 : Rds w11 1 (some ⟨w10.heap.size, 0, none⟩) 1 (sv [⟨#[]⟩]) := hw11 ▸ Rds.one w10 _ _
  have hSm := sameIDs_same w11 A3 1 c3 (some ⟨w10.heap.size, 0, none⟩) 1 [⟨#[]⟩] (hr10.non hc11) hr11 (by omega)
  replace hL3 := hL3.non hc11
  have hC11 := hC10.non hc11
  clear hL hC hC10 hc10 hc11 hr10 hr11 hr3 hown hlt hob hF hF3
  go_wp2_with fail
  refine hSm.mono ?_
  rintro e w12 ⟨rfl, hc12⟩
  have hTi := linTimes_any w12 F3 g n3 _ (hL3.non hc12) ⟨#[]⟩ (by decide)
  rw [show timesR _ _ = 2 from by unfold timesR; rw [setR_self]; rfl] at hTi
  clear hSm hw11
  go_wp2_with fail
  refine hTi.mono ?_
  rintro e w13 ⟨rfl, rfl⟩
  clear hTi
  go_wp2_with fail
  go_ret
  exact ⟨rfl, hC11.non hc12⟩
end Go.Proofs.Ytbkjpeelabdkfaa
