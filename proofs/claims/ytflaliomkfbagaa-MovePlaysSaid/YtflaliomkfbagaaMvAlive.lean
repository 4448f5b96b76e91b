/-
  gleanerlaw21: the example of the document.
-/
import Derived.Test.YtflaliomkfbagaaMvTaker
namespace Go.Proofs.Ytflaliomkfbagaa
open Go.RowKit
set_option linter.unusedVariables false
set_option linter.unusedSimpArgs false

def rt : ByteArray := ⟨#[]⟩
def g0 (node : Int) : GvS := ⟨node, fun _ => false, fun _ => none, 0⟩
theorem own_one {s : GvS} {a : ByteArray} (h : vid a = true) (h1 : s.off a = none) (h2 : s.has a = false) : ownN s [a] = ({ s with has := fun c => decide (c = a) || s.has c }, 1) := by
  unfold ownN own1
  simp [h, h1, h2]
theorem vid_rt : vid ⟨#[]⟩ = true := by kernel_rfl
theorem no_names {L : List ByteArray} {p : ByteArray → Bool} (hm : ∀ x, x ∈ L ↔ p x = true) (h : ∀ x, p x = false) : L.length = 0 := by
  cases L with
  | nil => rfl
  | cons a L => have := (hm a).1 (by simp); rw [h] at this; cases this
theorem one_name {L : List ByteArray} {p : ByteArray → Bool} {a : ByteArray} (hr : RisesS L) (hm : ∀ x, x ∈ L ↔ p x = true) (h : ∀ x, p x = decide (x = a)) : L = [a] :=
  rises_eqS hr (List.pairwise_singleton _ _) fun z => by rw [hm, h]; simp
theorem num_any (x : Int) (w : World) : Calls Try.prog 19 #[.int .i64 x] w fun e w2 => e = .returned (.int .i64 x) ∧ w = w2 := by
  go_enter Try.func19, Try.ntmps19
  go_wp2_with fail
  go_ret
  exact ⟨rfl, rfl⟩
def n1 : Nt := offN ⟨2, 1, 1⟩ ⟨#[]⟩
theorem n1_ok : n1.ok := by
  refine ⟨?_, ?_, ?_, ?_, ?_, ?_, ?_, ?_, ?_, ?_, ?_⟩
  all_goals first | (constructor <;> decide) | (intro x hx; cases hx) | decide
theorem n1_may : n1.clear.may = true := by kernel_rfl
def s1 : GvS := { g0 0 with has := fun c => decide (c = ⟨#[]⟩) || false }
def s2 : GvS := offerS s1 ⟨#[]⟩ ⟨2, 1, 0 + 1⟩

theorem in_yes : inOk (offerS s1 ⟨#[]⟩ ⟨2, 1, s1.num + 1⟩) (ansN 5 2 n1) = true := by
  unfold inOk offerS setO ansN n1 offN s1 g0
  simp
def sA : GvS := inS (offerS s1 ⟨#[]⟩ ⟨2, 1, s1.num + 1⟩) (ansN 5 2 n1)
theorem again_no : againV sA ⟨#[]⟩ = .tuple #[noneV, .bool false] := by
  unfold againV sA inS offerS setO ansN n1 offN
  simp

set_option maxRecDepth 100000 in
set_option maxHeartbeats 4000000 in
theorem mv_alive (w : World) : Calls Try.prog 8 #[] w fun e w2 => e = .returned (.bool true) ∧ Chg Non w w2 := by
  go_enter Try.func8, Try.ntmps8
  go_wp2_with fail
  refine (newGiver_any w 0).mono ?_
  rintro e w1 ⟨g, sm, om, F, rfl, hG, hF, hC⟩
  have hFl : ∀ b, F b → b < w1.heap.size := fun b hb => hG.lt b hb
  go_wp2_with fail
  refine (newTaker_any w1 2 5 (by omega)).mono ?_
  rintro e w2 ⟨t, tsm, ttm, F', rfl, hT, hF', hc2⟩
  replace hG := hG.non hc2
  replace hC := hC.non hc2
  have hdis : ∀ b, F b → ¬ F' b := fun b h h2 => by have := hFl b h; have := hF' b h2; omega
  have hF'w : ∀ b, F' b → w.heap.size ≤ b := fun b h => by have := hFl g hG.Fg; have := hF g hG.Fg; have := hF' b h; omega
  have hF'l : ∀ b, F' b → b < w2.heap.size := fun b hb => hT.lt b hb
  obtain ⟨w3, hw3⟩ : ∃ w3, w2.alloc (.cells #[.string ⟨#[]⟩] 33) = w3 := ⟨_, rfl⟩
  have hc3 : Chg Non w2 w3 := hw3 ▸ (Chg.refl _ _).alloc _
  have hr3 : Rds w3 1 (some ⟨w2.heap.size, 0, none⟩) 1 (sv [⟨#[]⟩]) := hw3 ▸ Rds.one w2 _ _
  have hOw := gvOwn_any w3 F g sm om 0 0 (g0 0) (hG.non hc3) (some ⟨w2.heap.size, 0, none⟩) 1 1 [⟨#[]⟩] hr3 (fun ad e _ h => by obtain rfl := Option.some.inj e; have h1 := hFl _ h; have h2 : w2.heap.size < w1.heap.size := h1; have := hc2.size; omega) (by omega) (by omega) (by intro a ha; simp at ha; subst ha; decide)
  rw [own_one vid_rt rfl rfl] at hOw
  replace hT := hT.non hc3
  replace hC := hC.non hc3
  clear hr3 hG hc2
  go_wp2_with fail
  refine hOw.mono ?_
  rintro e w4 ⟨rfl, ns, hns, hG, hc4⟩
  clear hOw hw3
  replace hT := hT.chg hc4 (fun b h h2 => hdis b h2 h)
  replace hC := hC.trans2 hc4 (fun b h => .inr (hF b h))
  have hz4 := hc4.size
  have hz3 := hc3.size
  have hOf := gvOffer_yes w4 F g sm om ns 0 s1 hG ⟨#[]⟩ (by decide) 2 1 (by decide) (by decide) (by omega) (by omega) (by omega) (by omega) (by decide) (by omega)
  clear hc4 hc3
  go_wp2_with fail
  refine hOf.mono ?_
  clear hOf
  rintro e w5 ⟨rfl, ns2, no2, hns2, hno2, hG, hc5⟩
  replace hT := hT.chg hc5 (fun b h h2 => hdis b h2 h)
  replace hC := hC.trans2 hc5 (fun b h => .inr (hF b h))
  have hz5 := hc5.size
  rw [show offV ⟨2, 1, s1.num + 1⟩ ⟨#[]⟩ = .agg #[.int .i64 4, .int .i64 0, .int .i64 1, .int .i64 1, .string ⟨#[]⟩, .int .i64 0, .slice none 0 0, .int .i64 0, .int .i64 0, .int .i64 0, .slice none 0 0] from rfl]
  have c0 : w5.cell? ⟨g, 0, none⟩ = some (.map (some sm)) := hG.hb.cell 0
  have gl := hG.hb.lt
  clear hc5
  go_wp2_with fail
  obtain ⟨w6, hw6⟩ : ∃ w6, w5.alloc (.cells #[.int .i64 4, .int .i64 0, .int .i64 1, .int .i64 1, .string ⟨#[]⟩, .int .i64 0, .slice none 0 0, .int .i64 0, .int .i64 0, .int .i64 0, .slice none 0 0] 59) = w6 := ⟨_, rfl⟩
  rw [hw6]
  have hc6 : Chg Non w5 w6 := hw6 ▸ (Chg.refl _ _).alloc _
  have hbN : Blk w6 w5.heap.size 59 #[.int .i64 4, .int .i64 0, .int .i64 1, .int .i64 1, .string ⟨#[]⟩, .int .i64 0, .slice none 0 0, .int .i64 0, .int .i64 0, .int .i64 0, .slice none 0 0] := hw6 ▸ Blk.new _ _ _
  replace hT := hT.non hc6
  replace hG := hG.non hc6
  replace hC := hC.non hc6
  have hHs := setHas_any w6 sm ns2 _ hG.hs (by omega)
  have hNl : ∀ b, F' b → b ≠ w5.heap.size := fun b h e => by have := hF'l b h; omega
  have hNg : ∀ b, F b → b ≠ w5.heap.size := fun b h e => by have := hFl b h; have := hF'l t hT.Fg; have := hF' t hT.Fg; omega
  have hz6 := hc6.size
  clear hc6 hw6
  refine hHs.mono ?_
  clear hHs c0 gl
  rintro e w7 ⟨A7, c7, L7, rfl, hr7, hm7, hn7, _, hc7⟩
  obtain rfl : ns2 = 0 := hn7.trans (no_names hm7 (fun x => by unfold offerS s1 g0; dsimp only; cases decide (x = (⟨#[]⟩ : ByteArray)) <;> rfl))
  clear hr7 hm7 hn7
  replace hT := hT.non hc7
  replace hG := hG.non hc7
  replace hC := hC.non hc7
  replace hbN := hbN.non hc7
  have y0 := hbN.cell 0
  have y1 := hbN.cell 1
  have y2 := hbN.cell 2
  have y3 := hbN.cell 3
  have y4 := hbN.cell 4
  have y5 := hbN.cell 5
  have y6 := hbN.cell 6
  have y7 := hbN.cell 7
  have y8 := hbN.cell 8
  have y9 := hbN.cell 9
  have y10 := hbN.cell 10
  simp only [List.getElem?_toArray, List.getElem?_cons_zero, List.getElem?_cons_succ] at y0 y1 y2 y3 y4 y5 y6 y7 y8 y9 y10
  have yl := hbN.lt
  have hIn := tkIn_take w7 F' t tsm ttm 0 0 _ hT n1 none 0 0 none 0 0 ⟨n1_ok, Rds.nil_, Nat.le_refl _, by unfold maxLen; omega, Rds.nil_, Nat.le_refl _, by unfold maxLen; omega⟩ (by omega) (by omega) n1_may rfl rfl (by decide) rfl (by omega) (by omega)
  have hz7 := hc7.size
  clear hc7
  go_wp2_with fail
  refine hIn.mono ?_
  clear hIn y0 y1 y2 y3 y4 y5 y6 y7 y8 y9 y10 yl
  rintro e w8 ⟨rfl, hT, hc8⟩
  replace hG := hG.chg hc8 (fun b h h2 => hdis b h h2)
  replace hC := hC.trans2 hc8 (fun b h => .inr (hF'w b h))
  rw [show (.agg (NtC (ansN 5 (TkS.mk 2 5 (fun _ => false) (fun _ => none)).node n1) none 0 0 none 0 0) : Value) = .agg #[.int .i64 5, .int .i64 2, .int .i64 1, .int .i64 1, .string ⟨#[]⟩, .int .i64 0, .slice none 0 0, .int .i64 0, .int .i64 0, .int .i64 0, .slice none 0 0] from rfl]
  have hz8 := hc8.size
  clear hbN hc8
  go_wp2_with fail
  obtain ⟨w9, hw9⟩ : ∃ w9, w8.alloc (.cells #[.int .i64 5, .int .i64 2, .int .i64 1, .int .i64 1, .string ⟨#[]⟩, .int .i64 0, .slice none 0 0, .int .i64 0, .int .i64 0, .int .i64 0, .slice none 0 0] 59) = w9 := ⟨_, rfl⟩
  rw [hw9]
  have hc9 : Chg Non w8 w9 := hw9 ▸ (Chg.refl _ _).alloc _
  have hbA : Blk w9 w8.heap.size 59 #[.int .i64 5, .int .i64 2, .int .i64 1, .int .i64 1, .string ⟨#[]⟩, .int .i64 0, .slice none 0 0, .int .i64 0, .int .i64 0, .int .i64 0, .slice none 0 0] := hw9 ▸ Blk.new _ _ _
  replace hT := hT.non hc9
  replace hG := hG.non hc9
  replace hC := hC.non hc9
  have hGi := gvIn_any w9 F g sm om 0 no2 _ hG (ansN 5 2 n1) none 0 0 none 0 0 (by decide) (by omega)
  clear hc9 hw9 hG
  refine hGi.mono ?_
  clear hGi
  rintro e w10 h10
  unfold GvInPost at h10
  rw [in_yes] at h10
  obtain ⟨rfl, ns3, no3, hns3, hno3, hG, hc10⟩ := h10
  rw [if_pos rfl] at hG
  have hG : Gv w10 F g sm om ns3 no3 sA := hG
  have hAF : ¬ F w8.heap.size := fun h => by have := hFl _ h; have := hF'l t hT.Fg; have := hF' t hT.Fg; omega
  replace hT := hT.chg hc10 (fun b h h2 => hdis b h2 h)
  replace hC := hC.trans2 hc10 (fun b h => .inr (hF b h))
  replace hbA := hbA.chg hc10 hAF
  have hAg := gvAgain_any w10 F g sm om ns3 no3 sA hG ⟨#[]⟩ (by decide)
  rw [again_no] at hAg
  clear hc10 hG
  go_wp2_with fail
  refine hAg.mono ?_
  clear hAg
  rintro e w11 ⟨rfl, hc11⟩
  rw [show noneV = .agg #[.int .i64 0, .int .i64 0, .int .i64 0, .int .i64 0, .string ⟨#[]⟩, .int .i64 0, .slice none 0 0, .int .i64 0, .int .i64 0, .int .i64 0, .slice none 0 0] from rfl]
  replace hT := hT.non hc11
  replace hC := hC.non hc11
  replace hbA := hbA.non hc11
  clear hc11
  have a0 : w11.cell? ⟨w8.heap.size, 0, none⟩ = some (.int .i64 5) := hbA.cell 0
  have al := hbA.lt
  have t0 : w11.cell? ⟨t, 0, none⟩ = some (.map (some tsm)) := hT.hb.cell 0
  have tl := hT.hb.lt
  clear hbA
  go_wp2_with fail
  refine (num_any _ _).mono ?_
  rintro e w13 ⟨rfl, rfl⟩
  go_wp2_with fail
  obtain ⟨w12, hw12⟩ : ∃ w12, w11.alloc (.cells #[.int .i64 0, .int .i64 0, .int .i64 0, .int .i64 0, .string ⟨#[]⟩, .int .i64 0, .slice none 0 0, .int .i64 0, .int .i64 0, .int .i64 0, .slice none 0 0] 59) = w12 := ⟨_, rfl⟩
  rw [hw12]
  have hc12 : Chg Non w11 w12 := hw12 ▸ (Chg.refl _ _).alloc _
  replace hT := hT.non hc12
  replace hC := hC.non hc12
  refine (setHas_any w12 tsm 1 _ hT.hs (by omega)).mono ?_
  clear hw12 hc12 a0 al t0 tl
  rintro e w14 ⟨A14, c14, L14, rfl, hq1, hq2, hq3, hq4, hc14⟩
  clear hq1 hq2 hq3 hq4
  go_wp2_with fail
  go_ret
  exact ⟨rfl, hC.non hc14⟩
end Go.Proofs.Ytflaliomkfbagaa
