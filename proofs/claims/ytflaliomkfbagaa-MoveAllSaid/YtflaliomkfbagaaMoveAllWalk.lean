/-
  gleanerlaw21.MoveAll: the walk.
-/
import Derived.Test.YtflaliomkfbagaaMvAll
namespace Go.Proofs.Ytflaliomkfbagaa
open Go.RowKit
set_option linter.unusedVariables false
set_option linter.unusedSimpArgs false

set_option maxRecDepth 100000 in
set_option maxHeartbeats 2000000 in
theorem moveAll_much (w : World) (tasks room : Int) (A : Option Addr) (n c : Nat) (h : tasks < 1 ∨ (1 ≤ tasks ∧ 16 < tasks) ∨ (1 ≤ tasks ∧ tasks ≤ 16 ∧ room < 0) ∨ (1 ≤ tasks ∧ tasks ≤ 16 ∧ 0 ≤ room ∧ 20 < room) ∨ (1 ≤ tasks ∧ tasks ≤ 16 ∧ 0 ≤ room ∧ room ≤ 20 ∧ 100 < n)) :
    Calls Try.prog 4 #[.int .i64 tasks, .int .i64 room, .slice A n c] w fun e w2 => e = .returned (.bool true) ∧ Chg Non w w2 := by
  rcases h with h | ⟨h, h2⟩ | ⟨h, h2, h3⟩ | ⟨h, h2, h3, h4⟩ | ⟨h, h2, h3, h4, h5⟩
  all_goals
    go_enter Try.func4, Try.ntmps4
    go_wp2_with fail
    refine (mv_alive w).mono ?_
    rintro e w2 ⟨rfl, hc2⟩
    go_wp2_with fail
    go_ret
    exact ⟨rfl, hc2⟩

set_option maxRecDepth 100000 in
set_option maxHeartbeats 16000000 in
theorem moveAll_core (w : World) (T room : Nat) (A : Option Addr) (n c : Nat) (l : List Bool) (hr : Rds w 1 A n (l.map .bool)) (h1 : 1 ≤ T) (h2 : T ≤ 16) (h3 : room ≤ 20) (hn : n ≤ 100) :
    Calls Try.prog 4 #[.int .i64 (T : Int), .int .i64 (room : Int), .slice A n c] w fun e w2 => e = .returned (.bool true) ∧ Chg Non w w2 := by
  have Hr := Lib.hid hr
  have qc := @conv1
  clear hr
  go_enter Try.func4, Try.ntmps4
  go_wp2_with fail
  refine (mv_alive w).mono ?_
  rintro e wa ⟨rfl, hca⟩
  go_wp2_with fail
  refine (newGiver_any wa 0).mono ?_
  rintro e w1 ⟨g, sm, om, F, rfl, hG, hF, hC⟩
  replace hF : ∀ b, F b → w.heap.size ≤ b := fun b hb => Nat.le_trans hca.size (hF b hb)
  replace hC := hca.non hC
  have hFl : ∀ b, F b → b < w1.heap.size := fun b hb => hG.lt b hb
  clear hca
  go_wp2_with fail
  refine (newTaker_any w1 1 room (by omega)).mono ?_
  rintro e w2 ⟨t, tsm, ttm, F', rfl, hT, hF', hc2⟩
  replace hG := hG.non hc2
  replace hC := hC.non hc2
  have hdis : ∀ b, F b → ¬ F' b := fun b h h2 => by have := hFl b h; have := hF' b h2; omega
  have hF'w : ∀ b, F' b → w.heap.size ≤ b := fun b h => by have := hFl g hG.Fg; have := hF g hG.Fg; have := hF' b h; omega
  have hF'l : ∀ b, F' b → b < w2.heap.size := fun b hb => hT.lt b hb
  replace hFl : ∀ b, F b → b < w2.heap.size := fun b hb => Nat.lt_of_lt_of_le (hFl b hb) hc2.size
  clear hc2 hF'
  go_wp2_with fail
  go_loopw [10, 11] (fun o i wr => ∃ (k : Nat) (A3 : Option Addr) (c3 : Nat), k ≤ T ∧ i = .int .i64 k ∧ o = .slice A3 k c3 ∧ Gv wr F g sm om 0 0 (g0 0) ∧ Tk wr F' t tsm ttm 0 0 ⟨1, room, fun _ => false, fun _ => none⟩ ∧ OwnR rkI wr w2.heap.size (.slice A3 k c3) k (sv ((List.range k).map id1)) ∧ w2.heap.size ≤ wr.heap.size ∧ Chg Non w wr) (fun _ i _ => T - (intOf i).toNat)
  case atStart => exact ⟨0, none, 0, Nat.zero_le _, rfl, rfl, hG, hT, OwnR.nil _ _ _, Nat.le_refl _, hC⟩
  case round =>
    clear hG hT hC
    obtain ⟨k, A3, c3, hk, rfl, rfl, hG, hT, hown, hz, hC⟩ := hrel
    by_cases hlt : k < T
    · have qw := fun w => qc (show k < 256 by omega) w
      have hst : (List.range (k + 1)).map id1 = (List.range k).map id1 ++ [id1 k] := by rw [List.range_succ, List.map_append]; rfl
      generalize hnm : id1 k = nm at qw hst
      have qww := qw wr
      obtain ⟨w3, hw3⟩ : ∃ w3, wr.alloc (.cells #[.int .u8 (k : Int)] 5) = w3 := ⟨_, rfl⟩
      rw [hw3] at qww
      have hc3 : Chg Non wr w3 := hw3 ▸ (Chg.refl _ _).alloc _
      have hz3 : w2.heap.size ≤ w3.heap.size := Nat.le_trans hz hc3.size
      have hown3 := hown.non hc3
      have Hst := Lib.hid hst
      have hG3 := hG.non hc3
      have hT3 := hT.non hc3
      have hC3 := hC.non hc3
      generalize (List.range k).map id1 = W at hown3 Hst
      clear qw hst hnm hG hT hC hown hc3
      go_wp2_with (at_builtin; refine appR1 (K := rkI) rfl (.tmp 53) (.tmp 58) rfl hown3 rfl (cs := #[.string nm]) rfl rfl (svI_one [nm]) ?_ ?_ ?_; (next => omega); (next => exact hz3); intro v9 w9 h9 hc9 hv9; obtain ⟨A9, c9, rfl, _⟩ := h9.open_)
      have hoF : ∀ b, (Value.slice A3 k c3).ownBlock = some b → w2.heap.size ≤ b := fun b hb => (hown3.lt hb).1
      have hG9 := hG3.chg hc9 (fun b hb h => by have := hoF b h; have := hFl b hb; omega)
      have hT9 := hT3.chg hc9 (fun b hb h => by have := hoF b h; have := hF'l b hb; omega)
      have hC9 : Chg Non w w9 := hC3.trans2 hc9 (fun b e => .inr (by have := hoF b e; have := hFl g hG3.Fg; have := hF g hG3.Fg; omega))
      have hz9 : w2.heap.size ≤ w9.heap.size := Nat.le_trans hz3 hc9.size
      have hown9 : OwnR rkI w9 w2.heap.size (.slice A9 (k + 1) c9) (k + 1) (sv ((List.range (k + 1)).map id1)) := by
        rw [Hst.out, show sv (W ++ [nm]) = sv W ++ (#[.string nm] : Array Value).toList by simp [sv]]
        exact h9
      clear hown3 h9 hc9 hG3 hT3 hC3 hw3 qww
      go_roundw
      case rel => exact ⟨k + 1, A9, c9, by omega, by go_num, rfl, hG9, hT9, hown9, hz9, hC9⟩
      case measure => simp [intOf]; omega
    · obtain rfl : T = k := by omega
      have hOw := gvOwn_any wr F g sm om 0 0 (g0 0) hG A3 T c3 ((List.range T).map id1) hown.rds (fun ad e h0 hb => by
        obtain ⟨A5, c5, e5, _, _, _, hb5⟩ := hown.open_
        injection e5 with e5 _ _
        have h5 := (hown.lt (hb5 ad (e5 ▸ e))).1
        have := hFl _ hb
        omega) (by omega) (by omega) (fun a ha => by
          rw [List.mem_map] at ha
          obtain ⟨j, _, rfl⟩ := ha
          show (1 : Nat) ≤ 1000000
          omega)
      rw [own_all room h2] at hOw
      clear hG
      go_wp2_with fail
      refine hOw.mono ?_
      clear hOw
      rintro e w4 ⟨rfl, ns, hns, hG, hc4⟩
      replace hG : Gv w4 F g sm om ns 0 (gA T room 0) := by rw [← gA_zero]; exact hG
      have hoF : ∀ b, (Value.slice A3 T c3).ownBlock = some b → w2.heap.size ≤ b := fun b hb => (hown.lt hb).1
      replace hown := hown.chg hc4 (fun b hb h => by have := hoF b hb; have := hFl b h; omega)
      replace hT := hT.chg hc4 (fun b h h2 => hdis b h2 h)
      replace hC := hC.trans2 hc4 (fun b h => .inr (hF b h))
      replace hz := Nat.le_trans hz hc4.size
      clear hc4
      go_wp2_with fail
      go_loopw [12, 13] (fun p i wr => ∃ (k2 at_ ns no ns2 nt : Nat) (s : TkS), k2 ≤ T ∧ i = .int .i64 k2 ∧ p = .int .i64 at_ ∧ at_ ≤ n + k2 ∧ nt ≤ at_ ∧ ns ≤ T + k2 ∧ no ≤ k2 ∧ TkB room k2 s ns2 ∧ Gv wr F g sm om ns no (gA T room k2) ∧ Tk wr F' t tsm ttm ns2 nt s ∧ OwnR rkI wr w2.heap.size (.slice A3 T c3) T (sv ((List.range T).map id1)) ∧ w2.heap.size ≤ wr.heap.size ∧ Chg Non w wr) (fun _ i _ => T - (intOf i).toNat)
      case atStart => exact ⟨0, 0, ns, 0, 0, 0, _, Nat.zero_le _, rfl, rfl, Nat.zero_le _, Nat.le_refl _, by omega, Nat.le_refl _, tkB_zero room, hG, hT, hown, hz, hC⟩
      case round =>
        clear hG hT hC hown hz hns ns hk hlt
        obtain ⟨k, at_, ns, no, ns2, nt, s, hk, rfl, rfl, hat, hnt, hns, hno, hTB, hG, hT, hown, hz, hC⟩ := hrel
        by_cases hlt : k < T
        · obtain ⟨ad, x, rfl, hx, hcx⟩ := hown.rds.getS hlt
          obtain ⟨nm, hnm⟩ : ∃ nm, id1 k = nm := ⟨_, rfl⟩
          have hvid := id1_vid (show k < 16 by omega)
          have hsz := id_small hvid
          have hx2 : ((List.range T).map id1)[k]? = some (id1 k) := by rw [List.getElem?_map, List.getElem?_range hlt]; rfl
          obtain rfl : x = nm := by rw [hx2] at hx; rw [← hnm]; exact (Option.some.inj hx).symm
          have al := World.block_lt_of_cell? wr _ hcx
          have hOf := gvOffer_yes wr F g sm om ns no (gA T room k) hG (id1 k) hsz 1 1 (gA_has hlt) rfl (by omega) (by omega) (by omega) (by omega) (show (0 : Int) ≤ k ∧ (k : Int) ≤ 1000000 by omega) (by omega)
          rw [show (⟨1, 1, (gA T room k).num + 1⟩ : Of) = ofA k from rfl, show offerS (gA T room k) (id1 k) (ofA k) = gO T room k from rfl, hnm] at hOf
          have Hnm := Lib.hid hnm
          rw [hnm] at hsz
          have Hvid := Lib.hid hvid
          clear hx hx2 hnm hvid hG
          go_wp2_with fail
          refine hOf.mono ?_
          clear hOf hcx al
          rintro e w5 ⟨rfl, ns5, no5, hns5, hno5, hG, hc5⟩
          have hoF : ∀ b, (Value.slice (some ad) T c3).ownBlock = some b → w2.heap.size ≤ b := fun b hb => (hown.lt hb).1
          replace hown := hown.chg hc5 (fun b hb h => by have := hoF b hb; have := hFl b h; omega)
          replace hT := hT.chg hc5 (fun b h h2 => hdis b h2 h)
          replace hC := hC.trans2 hc5 (fun b h => .inr (hF b h))
          replace hz := Nat.le_trans hz hc5.size
          clear hc5
          go_wp2_with fail
          go_loopw [12] (fun p wr => ∃ (at2 ns no ns2 nt : Nat) (s : TkS) (b : Bool), p = .int .i64 at2 ∧ at2 ≤ n + k + 1 ∧ (b = false → at2 ≤ n + k) ∧ nt ≤ at2 ∧ ns ≤ T + k + 1 ∧ (b = false → ns ≤ T + k) ∧ no ≤ k + 1 ∧ (if b then TkB room (k + 1) s ns2 else Ask room k s ns2) ∧ Gv wr F g sm om ns no (if b then gA T room (k + 1) else gO T room k) ∧ Tk wr F' t tsm ttm ns2 nt s ∧ OwnR rkI wr w2.heap.size (.slice (some ad) T c3) T (sv ((List.range T).map id1)) ∧ w2.heap.size ≤ wr.heap.size ∧ Chg Non w wr) (fun p _ => n + 40 - (intOf p).toNat)
          case atStart => exact ⟨at_, ns5, no5, ns2, nt, s, false, rfl, by omega, fun _ => by omega, hnt, by omega, fun _ => by omega, by omega, .inl hTB, hG, hT, hown, hz, hC⟩
          case round =>
            clear hG hT hC hown hz hns hTB hnt hns5 hno5 ns5 no5 hat hno
            obtain ⟨at2, ns, no, ns2, nt, s, b, rfl, hat, hat2, hnt, hns, hns1, hno, hTB, hG, hT, hown, hz, hC⟩ := hrel
            obtain ⟨ad', x', e', hx, hcx⟩ := hown.rds.getS hlt
            obtain rfl : ad = ad' := Option.some.inj e'
            have hx2 : ((List.range T).map id1)[k]? = some x := by rw [List.getElem?_map, List.getElem?_range hlt, ← Hnm.out]; rfl
            obtain rfl : x' = x := by rw [hx2] at hx; exact (Option.some.inj hx).symm
            have al := World.block_lt_of_cell? wr _ hcx
            clear hx hx2 e'
            cases b with
            | true =>
              rw [if_pos rfl] at hTB hG
              have hAg := gvAgain_any wr F g sm om ns no (gA T room (k + 1)) hG x' hsz
              rw [gA_again, show noneV = .agg #[.int .i64 0, .int .i64 0, .int .i64 0, .int .i64 0, .string ⟨#[]⟩, .int .i64 0, .slice none 0 0, .int .i64 0, .int .i64 0, .int .i64 0, .slice none 0 0] from rfl] at hAg
              go_wp2_with fail
              refine hAg.mono ?_
              clear hAg hcx al
              rintro e w6 ⟨rfl, hc6⟩
              go_wp2_with fail
              go_roundw
              case rel =>
                have hcA : ∀ ob, Chg Non wr (w6.alloc ob) := fun ob => hc6.alloc ob
                exact ⟨k + 1, at2, ns, no, ns2, nt, s, by omega, by go_num, rfl, by omega, hnt, by omega, hno, hTB, hG.non (hcA _), hT.non (hcA _), hown.non (hcA _), Nat.le_trans hz (hcA _).size, hC.non (hcA _)⟩
              case measure => simp [intOf]; omega
            | false =>
              rw [if_neg Bool.false_ne_true] at hTB hG
              have hat3 := hat2 rfl
              have hns3 := hns1 rfl
              clear hat2 hns1
              have hAg := gvAgain_any wr F g sm om ns no (gO T room k) hG x' hsz
              have e1 := gO_again T room k
              rw [Hnm.out] at e1
              rw [e1, show offV (ofA k) x' = .agg #[.int .i64 4, .int .i64 0, .int .i64 ((k : Int) + 1), .int .i64 1, .string x', .int .i64 0, .slice none 0 0, .int .i64 0, .int .i64 0, .int .i64 0, .slice none 0 0] from rfl] at hAg
              clear e1
              go_wp2_with fail
              refine hAg.mono ?_
              clear hAg hcx al
              rintro e w6 ⟨rfl, hc6⟩
              go_wp2_with fail
              obtain ⟨w7, hw7⟩ : ∃ w7, w6.alloc (.cells #[.int .i64 4, .int .i64 0, .int .i64 ((k : Int) + 1), .int .i64 1, .string x', .int .i64 0, .slice none 0 0, .int .i64 0, .int .i64 0, .int .i64 0, .slice none 0 0] 59) = w7 := ⟨_, rfl⟩
              rw [hw7]
              have hc7 : Chg Non wr w7 := hw7 ▸ hc6.alloc _
              replace hG := hG.non hc7
              replace hT := hT.non hc7
              replace hown := hown.non hc7
              replace hC := hC.non hc7
              replace hz := Nat.le_trans hz hc7.size
              have hns2 : ns2 ≤ 20 := by rcases hTB with h | ⟨h, _⟩ <;> have := h.ns_ <;> omega
              have hnode : s.node = 1 := by rcases hTB with h | ⟨h, _⟩ <;> exact h.node
              have hk16 : k < 16 := by omega
              have hIn := tkIn_offer w7 F' t tsm ttm ns2 nt s hT (ntA k) none 0 0 none 0 0 ⟨ntA_ok hk16, Rds.nil_, Nat.le_refl _, by unfold maxLen; omega, Rds.nil_, Nat.le_refl _, by unfold maxLen; omega⟩ (by omega) (by omega) (ntA_may hk16) rfl (by omega) (by omega)
              rw [show (Value.agg (NtC (ntA k) none 0 0 none 0 0)) = .agg #[.int .i64 4, .int .i64 0, .int .i64 ((k : Int) + 1), .int .i64 1, .string x', .int .i64 0, .slice none 0 0, .int .i64 0, .int .i64 0, .int .i64 0, .slice none 0 0] from by rw [← Hnm.out]; rfl] at hIn
              clear hw7 hc7 hc6
              refine hIn.mono ?_
              clear hIn
              rintro e w8 hp
              unfold TkInPost at hp
              obtain ⟨he, ⟨nt8, hnt8, hT8⟩, hc8⟩ := hp
              obtain ⟨hK, hB, hAsk⟩ := ask_in hTB hk16
              rw [hK, hnode, show (Value.agg (NtC (ansN (kdA room k) 1 (ntA k)) none 0 0 none 0 0)) = .agg #[.int .i64 (kdA room k), .int .i64 1, .int .i64 ((k : Int) + 1), .int .i64 1, .string x', .int .i64 0, .slice none 0 0, .int .i64 0, .int .i64 0, .int .i64 0, .slice none 0 0] from by rw [← Hnm.out]; rfl] at he
              replace hT := hT8
              generalize tkS2 s ns2 (ntA k) (ntA_ok hk16) = s8 at hT hB hAsk
              generalize tkNs s ns2 (ntA k) (ntA_ok hk16) = ns8 at hT hB hAsk
              subst he
              replace hG := hG.chg hc8 (fun b h h2 => hdis b h h2)
              replace hown := hown.chg hc8 (fun b hb h => by have := hoF b hb; have := hF'l b h; omega)
              replace hC := hC.trans2 hc8 (fun b h => .inr (hF'w b h))
              replace hz := Nat.le_trans hz hc8.size
              clear hc8 hK hT8 hTB hnode
              replace hAsk := Lib.hid hAsk
              replace hB := Lib.hid hB
              by_cases hl2 : at2 < n
              · obtain ⟨ad2, x2, rfl, _, hcb⟩ := Hr.out.getMap (f := Value.bool) hl2
                have b0 := hC.cell hcb id
                have bl := World.block_lt_of_cell? w8 _ b0
                clear hcb
                cases x2 with
                | true =>
                  go_wp2_with fail
                  go_roundw
                  case rel =>
                    have hcA : ∀ ob, Chg Non w8 (w8.alloc ob) := fun ob => (Chg.refl _ _).alloc ob
                    exact ⟨at2 + 1, ns, no, ns8, nt8, s8, false, by go_num, by omega, fun _ => by omega, by omega, by omega, fun _ => hns3, by omega, hAsk.out, hG.non (hcA _), hT.non (hcA _), hown.non (hcA _), Nat.le_trans hz (hcA _).size, hC.non (hcA _)⟩
                  case measure => simp [intOf]; omega
                | false =>
                  go_wp2_with fail
                  clear b0 bl
                  obtain ⟨w9, hw9⟩ : ∃ w9, w8.alloc (.cells #[.int .i64 (kdA room k), .int .i64 1, .int .i64 ((k : Int) + 1), .int .i64 1, .string x', .int .i64 0, .slice none 0 0, .int .i64 0, .int .i64 0, .int .i64 0, .slice none 0 0] 59) = w9 := ⟨_, rfl⟩
                  rw [hw9]
                  have hc9 : Chg Non w8 w9 := hw9 ▸ (Chg.refl _ _).alloc _
                  have hGi := gvIn_any w9 F g sm om ns no (gO T room k) (hG.non hc9) (ansN (kdA room k) 1 (ntA k)) none 0 0 none 0 0 (by show (id1 k).size ≤ maxLen; rw [Hnm.out]; exact hsz) (by omega)
                  rw [show (Value.agg (NtC (ansN (kdA room k) 1 (ntA k)) none 0 0 none 0 0)) = .agg #[.int .i64 (kdA room k), .int .i64 1, .int .i64 ((k : Int) + 1), .int .i64 1, .string x', .int .i64 0, .slice none 0 0, .int .i64 0, .int .i64 0, .int .i64 0, .slice none 0 0] from by rw [← Hnm.out]; rfl] at hGi
                  replace hT := hT.non hc9
                  replace hown := hown.non hc9
                  replace hC := hC.non hc9
                  replace hz := Nat.le_trans hz hc9.size
                  clear hG hw9 hc9
                  refine hGi.mono ?_
                  clear hGi
                  rintro e w10 h10
                  unfold GvInPost at h10
                  rw [gO_inOk] at h10
                  obtain ⟨rfl, ns10, no10, hns10, hno10, hG, hc10⟩ := h10
                  rw [if_pos rfl, gO_in hlt h2] at hG
                  replace hown := hown.chg hc10 (fun b hb h => by have := hoF b hb; have := hFl b h; omega)
                  replace hT := hT.chg hc10 (fun b h h2 => hdis b h2 h)
                  replace hC := hC.trans2 hc10 (fun b h => .inr (hF b h))
                  replace hz := Nat.le_trans hz hc10.size
                  clear hc10
                  go_wp2_with fail
                  go_roundw
                  case rel => exact ⟨at2 + 1, ns10, no10, _, nt8, _, true, by go_num, by omega, (fun h => nomatch h), by omega, by omega, (fun h => nomatch h), by omega, hB.out, hG, hT, hown, hz, hC⟩
                  case measure => simp [intOf]; omega
              · have hge : n ≤ at2 := by omega
                clear hl2
                go_wp2_with fail
                obtain ⟨w9, hw9⟩ : ∃ w9, w8.alloc (.cells #[.int .i64 (kdA room k), .int .i64 1, .int .i64 ((k : Int) + 1), .int .i64 1, .string x', .int .i64 0, .slice none 0 0, .int .i64 0, .int .i64 0, .int .i64 0, .slice none 0 0] 59) = w9 := ⟨_, rfl⟩
                rw [hw9]
                have hc9 : Chg Non w8 w9 := hw9 ▸ (Chg.refl _ _).alloc _
                have hGi := gvIn_any w9 F g sm om ns no (gO T room k) (hG.non hc9) (ansN (kdA room k) 1 (ntA k)) none 0 0 none 0 0 (by show (id1 k).size ≤ maxLen; rw [Hnm.out]; exact hsz) (by omega)
                rw [show (Value.agg (NtC (ansN (kdA room k) 1 (ntA k)) none 0 0 none 0 0)) = .agg #[.int .i64 (kdA room k), .int .i64 1, .int .i64 ((k : Int) + 1), .int .i64 1, .string x', .int .i64 0, .slice none 0 0, .int .i64 0, .int .i64 0, .int .i64 0, .slice none 0 0] from by rw [← Hnm.out]; rfl] at hGi
                replace hT := hT.non hc9
                replace hown := hown.non hc9
                replace hC := hC.non hc9
                replace hz := Nat.le_trans hz hc9.size
                clear hG hw9 hc9
                refine hGi.mono ?_
                clear hGi
                rintro e w10 h10
                unfold GvInPost at h10
                rw [gO_inOk] at h10
                obtain ⟨rfl, ns10, no10, hns10, hno10, hG, hc10⟩ := h10
                rw [if_pos rfl, gO_in hlt h2] at hG
                replace hown := hown.chg hc10 (fun b hb h => by have := hoF b hb; have := hFl b h; omega)
                replace hT := hT.chg hc10 (fun b h h2 => hdis b h2 h)
                replace hC := hC.trans2 hc10 (fun b h => .inr (hF b h))
                replace hz := Nat.le_trans hz hc10.size
                clear hc10
                go_wp2_with fail
                go_roundw
                case rel => exact ⟨at2 + 1, ns10, no10, _, nt8, _, true, by go_num, by omega, (fun h => nomatch h), by omega, by omega, (fun h => nomatch h), by omega, hB.out, hG, hT, hown, hz, hC⟩
                case measure => simp [intOf]; omega
        · obtain rfl : T = k := by omega
          have t0 : wr.cell? ⟨t, 0, none⟩ = some (.map (some tsm)) := hT.hb.cell 0
          have tl := hT.hb.lt
          have hns2 := hTB.ns_
          by_cases hr : T < room
          · obtain rfl : T = ns2 := by omega
            clear hns2
            have hHs := setHas_any wr tsm T _ hT.hs (by omega)
            go_wp2_with fail
            refine hHs.mono ?_
            clear hHs t0 tl
            rintro e w5 ⟨A5, c5, L5, rfl, q1, q2, q3, q4, hc5⟩
            clear q1 q2 q3 q4
            replace hG := hG.non hc5
            replace hC := hC.non hc5
            clear hc5 hT
            have g0c : w5.cell? ⟨g, 0, none⟩ = some (.map (some sm)) := hG.hb.cell 0
            have gl := hG.hb.lt
            have hHs := setHas_any w5 sm ns _ hG.hs (by omega)
            go_wp2_with fail
            refine hHs.mono ?_
            clear hHs g0c gl
            rintro e w6 ⟨A6, c6, L6, rfl, hq1, hq2, hq3, _, hc6⟩
            have hl := all_gone T room hq1 hq2 (by omega)
            obtain rfl : ns = 0 := by omega
            replace hC := hC.non hc6
            clear hq1 hq2 hq3 hl hc6 hG
            go_wp2_with fail
            go_ret
            exact ⟨rfl, hC⟩
          · obtain rfl : ns2 = room := by omega
            clear hns2
            have hge : ns2 ≤ T := by omega
            clear hr
            have hHs := setHas_any wr tsm ns2 _ hT.hs (by omega)
            go_wp2_with fail
            refine hHs.mono ?_
            clear hHs t0 tl
            rintro e w5 ⟨A5, c5, L5, rfl, q1, q2, q3, q4, hc5⟩
            clear q1 q2 q3 q4
            replace hG := hG.non hc5
            replace hC := hC.non hc5
            clear hc5 hT
            have g0c : w5.cell? ⟨g, 0, none⟩ = some (.map (some sm)) := hG.hb.cell 0
            have gl := hG.hb.lt
            have hHs := setHas_any w5 sm ns _ hG.hs (by omega)
            go_wp2_with fail
            refine hHs.mono ?_
            clear hHs g0c gl
            rintro e w6 ⟨A6, c6, L6, rfl, hq1, hq2, hq3, _, hc6⟩
            have hl := all_gone T ns2 hq1 hq2 (by omega)
            have hwr : ((ns : Int) == (T : Int) - (ns2 : Int)) = true := by rw [beq_iff_eq]; omega
            replace hC := hC.non hc6
            clear hq1 hq2 hq3 hl hc6 hG
            go_wp2_with fail
            go_ret
            exact ⟨rfl, hC⟩

theorem moveAll_walk (w : World) (tasks : Int) (hi : i64 tasks) (room : Int) (hi2 : i64 room) (A : Option Addr) (n c : Nat) (e0 : Rd Try.prog w 63 (Value.slice A n c).cells.toList) :
    Calls Try.prog 4 #[.int .i64 tasks, .int .i64 room, .slice A n c] w fun e w2 => e = .returned (.bool true) ∧ Chg Non w w2 := by
  obtain ⟨A2', n2', c2', l, g1, g2, g3, g4⟩ := e0.bools Try.underlying63 (by kernel_rfl) Try.underlying4
  simp only [Value.cells, List.cons.injEq, and_true, Value.slice.injEq] at g1
  obtain ⟨rfl, rfl, rfl⟩ := g1
  by_cases h : 1 ≤ tasks ∧ tasks ≤ 16 ∧ 0 ≤ room ∧ room ≤ 20 ∧ n ≤ 100
  · obtain ⟨h1, h2, h3, h4, h5⟩ := h
    obtain ⟨T, rfl⟩ : ∃ T : Nat, tasks = (T : Int) := ⟨tasks.toNat, by omega⟩
    obtain ⟨R, rfl⟩ : ∃ R : Nat, room = (R : Int) := ⟨room.toNat, by omega⟩
    exact moveAll_core w T R A n c l g4 (by omega) (by omega) (by omega) h5
  · exact moveAll_much w tasks room A n c (by omega)
end Go.Proofs.Ytflaliomkfbagaa
