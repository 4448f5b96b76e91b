/-
  gleanerlaw24.LineageLost: the walk.
-/
import Derived.Test.YtbkjpeelabdkfaaLostPlain
namespace Go.Proofs.Ytbkjpeelabdkfaa
open Go.RowKit
set_option linter.unusedVariables false
set_option linter.unusedSimpArgs false

/-- The two views of the law, in blocks V. -/
structure LostV (w : World) (V : Nat → Prop) (gv gw : Nat) (A : Option Addr) (c : Nat) (A2 : Option Addr) (k2 c2 : Nat) (M2 : List Mb) : Prop where
  hv : Blk w gv 34 #[.int .i64 1, .slice A 8 c]
  hw : Blk w gw 34 #[.int .i64 2, .slice A2 k2 c2]
  rv : Rds w 2 A 8 (mv (firstM 8))
  rw_ : Rds w 2 A2 k2 (mv M2)
  Vv : V gv
  Vw : V gw
  Va : ∀ ad, A = some ad → V ad.block
  Vb : ∀ ad, A2 = some ad → V ad.block
  lt : ∀ b, V b → b < w.heap.size
theorem LostV.chg {w w2 : World} {V : Nat → Prop} {gv gw : Nat} {A : Option Addr} {c : Nat} {A2 : Option Addr} {k2 c2 : Nat} {M2 : List Mb} {S : Nat → Prop} (h : LostV w V gv gw A c A2 k2 c2 M2) (hc : Chg S w w2) (hS : ∀ b, V b → ¬ S b) : LostV w2 V gv gw A c A2 k2 c2 M2 :=
  ⟨h.hv.chg hc (hS _ h.Vv), h.hw.chg hc (hS _ h.Vw), h.rv.chg hc (fun ad e => hS _ (h.Va ad e)), h.rw_.chg hc (fun ad e => hS _ (h.Vb ad e)), h.Vv, h.Vw, h.Va, h.Vb, fun b hb => Nat.lt_of_lt_of_le (h.lt b hb) hc.size⟩
theorem LostV.non {w w2 : World} {V : Nat → Prop} {gv gw : Nat} {A : Option Addr} {c : Nat} {A2 : Option Addr} {k2 c2 : Nat} {M2 : List Mb} (h : LostV w V gv gw A c A2 k2 c2 M2) (hc : Chg Non w w2) : LostV w2 V gv gw A c A2 k2 c2 M2 := h.chg hc fun _ _ => id
theorem su_none {w : World} {base n : Nat} {v : Value} {L : List ByteArray} {s : LS} {p : Rc → Bool} (h : OwnR rkI w base v n (sv L)) (hm : ∀ x, x ∈ L ↔ suchP s p x = true) (h0 : ∀ x, suchP s p x = false) : n = 0 := by
  have : L = [] := by
    cases L with
    | nil => rfl
    | cons a L =>
      have := (hm a).1 (by simp)
      rw [h0] at this
      cases this
  rw [h.lenS, this]
  rfl

set_option maxRecDepth 100000 in
set_option maxHeartbeats 2000000 in
theorem lineageLost_much (w : World) (A : Option Addr) (n c : Nat) (gone ended : Int) (h : 16 < n ∨ (n ≤ 16 ∧ gone < 1) ∨ (n ≤ 16 ∧ 1 ≤ gone ∧ 7 < gone)) :
    Calls Try.prog 4 #[.slice A n c, .int .i64 gone, .int .i64 ended] w fun e w2 => e = .returned (.bool true) ∧ Chg Non w w2 := by
  rcases h with h | ⟨h, h2⟩ | ⟨h, h2, h3⟩
  all_goals
    go_enter Try.func4, Try.ntmps4
    go_wp2_with fail
    refine (lin_alive w).mono ?_
    rintro e w2 ⟨rfl, hc2⟩
    go_wp2_with fail
    go_ret
    exact ⟨rfl, hc2⟩

set_option maxRecDepth 100000 in
set_option maxHeartbeats 8000000 in
theorem lineageLost_core (w : World) (A : Option Addr) (n c : Nat) (l : List Int) (gn : Fin 8) (hg : 0 < gn.val) (G ended : Int) (hG : G = (gn.val : Int)) (hr : Rds w 1 A n (iv l)) (hn : n ≤ 16) :
    Calls Try.prog 4 #[.slice A n c, .int .i64 G, .int .i64 ended] w fun e w2 => e = .returned (.bool true) ∧ Chg Non w w2 := by
  have Hr := Lib.hid hr
  have Hll := Lib.hid hr.lenMap
  have hg1 : (1 : Int) ≤ G := by omega
  have hg7 : G ≤ 7 := by have := gn.isLt; omega
  have HG := Lib.hid hG
  have HE := Lib.hid (lost_may gn hg)
  have HV := Lib.hid (lost_v gn hg)
  rw [← hG] at HE HV
  have Horp : Hid (∀ j, orphanP (kept (fun m => inI [G] m.1) (firstM 8)) (lostR l ended j) = (yv l j == G)) := by
    intro j; rw [hG]; exact orphan_gone l ended gn hg j
  have Hor0 : Hid (orphanP (kept (fun m => inI [G] m.1) (firstM 8)) ⟨0, 2, 2, false⟩ = false) := by
    show _ = _; rw [hG]; exact orphan_zero gn hg
  have Hof0 : Hid ((fun r : Rc => r.node == G) ⟨0, 2, 2, false⟩ = false) := by show ((0 : Int) == G) = false; rw [beq_eq_false_iff_ne]; omega
  have qc := @conv1
  generalize hM2 : kept (fun m => inI [G] m.1) (firstM 8) = M2 at HV Horp Hor0
  clear hr hG hM2
  go_enter Try.func4, Try.ntmps4
  go_wp2_with fail
  refine (lin_alive w).mono ?_
  rintro e wa ⟨rfl, hca⟩
  go_wp2_with fail
  refine (linNew_any wa).mono ?_
  rintro e w1 ⟨g, F, rfl, hL, hF, hC⟩
  unfold ptr
  replace hF : ∀ b, F b → w.heap.size ≤ b := fun b hb => Nat.le_trans hca.size (hF b hb)
  replace hC := hca.non hC
  have hFlt : ∀ b, F b → b < w1.heap.size := fun b hb => hL.lt hb
  clear hca
  go_wp2_with fail
  refine (refFirst_yes w1 8 (by decide) (by decide)).mono ?_
  rintro e w2 ⟨A1, k, c1, rfl, hW, hO, hc2⟩
  obtain rfl : k = 8 := mv_len hW.rds
  obtain ⟨w3, hw3⟩ : ∃ w3, w2.alloc (.cells #[.int .i64 1, .slice A1 8 c1] 34) = w3 := ⟨_, rfl⟩
  have hc3 : Chg Non w1 w3 := hw3 ▸ hc2.alloc _
  have hbv : Blk w3 w2.heap.size 34 #[.int .i64 1, .slice A1 8 c1] := hw3 ▸ Blk.new _ _ _
  have hR : Rds w3 2 A1 8 (mv (firstM 8)) := hw3 ▸ hW.rds.non ((Chg.refl Non w2).alloc (.cells #[.int .i64 1, .slice A1 8 c1] 34))
  have hAlt : ∀ ad, A1 = some ad → w1.heap.size ≤ ad.block ∧ ad.block < w2.heap.size := fun ad e => ⟨hO _ (by rw [e]; rfl), hW.lt (by rw [e]; rfl)⟩
  replace hL := hL.non hc3
  replace hC := hC.non hc3
  have q0 : w3.cell? ⟨w2.heap.size, 0, none⟩ = some (.int .i64 1) := hbv.cell 0
  have q1 : w3.cell? ⟨w2.heap.size, 1, none⟩ = some (.slice A1 8 c1) := hbv.cell 1
  have ql := hbv.lt
  have hz2 := hc2.size
  have hz3 : w2.heap.size < w3.heap.size := hbv.lt
  obtain ⟨w4, hw4⟩ : ∃ w4, w3.alloc (.cells #[.int .i64 G] 3) = w4 := ⟨_, rfl⟩
  have hc4 : Chg Non w3 w4 := hw4 ▸ (Chg.refl _ _).alloc _
  have hr4 : Rds w4 1 (some ⟨w3.heap.size, 0, none⟩) 1 (iv [G]) := hw4 ▸ Rds.one w3 _ _
  have hWo := refWithout_any w4 1 A1 8 c1 (firstM 8) (some ⟨w3.heap.size, 0, none⟩) 1 1 [G] (hR.non hc4) (by omega) hr4 (by omega)
  rw [HE.out, HV.out] at hWo
  clear hc2 hW hc3 hr4 hO
  go_wp2_with fail
  refine hWo.mono ?_
  rintro e w5 ⟨A2, k2, c2, rfl, hW2, hO2, hc5⟩
  clear hWo q0 q1 ql
  obtain ⟨w6, hw6⟩ : ∃ w6, w5.alloc (.cells #[.int .i64 2, .slice A2 k2 c2] 34) = w6 := ⟨_, rfl⟩
  have hc6 : Chg Non w3 w6 := hw6 ▸ (hc4.non hc5).alloc _
  have hz5 : w3.heap.size ≤ w5.heap.size := (hc4.non hc5).size
  have hz4 := hc4.size
  have hs2 := hW2.small
  have hbw : Blk w6 w5.heap.size 34 #[.int .i64 2, .slice A2 k2 c2] := hw6 ▸ Blk.new _ _ _
  have hBlt : ∀ ad, A2 = some ad → w4.heap.size ≤ ad.block ∧ ad.block < w5.heap.size := fun ad e => ⟨hO2 _ (by rw [e]; rfl), hW2.lt (by rw [e]; rfl)⟩
  have hlv : LostV w6 (fun b => b = w2.heap.size ∨ b = w5.heap.size ∨ (∃ ad, A1 = some ad ∧ b = ad.block) ∨ ∃ ad, A2 = some ad ∧ b = ad.block) w2.heap.size w5.heap.size A1 c1 A2 k2 c2 M2 :=
    ⟨hbv.non hc6, hbw, hR.non hc6, hw6 ▸ hW2.rds.non ((Chg.refl Non w5).alloc (.cells #[.int .i64 2, .slice A2 k2 c2] 34)), .inl rfl, .inr (.inl rfl), fun ad e => .inr (.inr (.inl ⟨ad, e, rfl⟩)), fun ad e => .inr (.inr (.inr ⟨ad, e, rfl⟩)), fun b hb => by
      have h6 := hbw.lt
      rcases hb with rfl | rfl | ⟨ad, e, rfl⟩ | ⟨ad, e, rfl⟩
      · omega
      · exact h6
      · have := (hAlt ad e).2; omega
      · have := (hBlt ad e).2; omega⟩
  have hVF : ∀ b, (b = w2.heap.size ∨ b = w5.heap.size ∨ (∃ ad, A1 = some ad ∧ b = ad.block) ∨ ∃ ad, A2 = some ad ∧ b = ad.block) → ¬ F b := fun b hb h => by
    have h1 := hFlt b h
    rcases hb with rfl | rfl | ⟨ad, e, rfl⟩ | ⟨ad, e, rfl⟩
    · omega
    · omega
    · have := (hAlt ad e).1; omega
    · have := (hBlt ad e).1; omega
  replace hL := hL.non hc6
  replace hC := hC.non hc6
  go_wp2_with fail
  obtain ⟨gv, hgv⟩ : ∃ x, w2.heap.size = x := ⟨_, rfl⟩
  obtain ⟨gw, hgw⟩ : ∃ x, w5.heap.size = x := ⟨_, rfl⟩
  rw [hgv, hgw] at hlv hVF ⊢
  have hVF2 : ∀ b, (fun b => b = gv ∨ b = gw ∨ (∃ ad, A1 = some ad ∧ b = ad.block) ∨ ∃ ad, A2 = some ad ∧ b = ad.block) b → ¬ F b := hVF
  generalize (fun b => b = gv ∨ b = gw ∨ (∃ ad, A1 = some ad ∧ b = ad.block) ∨ ∃ ad, A2 = some ad ∧ b = ad.block) = V at hlv hVF2
  obtain ⟨wS, hwS⟩ : ∃ x, w6 = x := ⟨_, rfl⟩
  rw [hwS] at hL hC hlv ⊢
  clear hVF hFlt hAlt hBlt hz2 hz3 hz4 hz5 hc4 hc5 hc6 hw3 hw4 hw6 hgv hgw hwS hR hbv hbw hW2 hO2 HE HV hg hg1 hg7
  have hS6 := hC.size
  go_loopw [13, 14] (fun o i wr => ∃ (k n2 q : Nat) (A3 : Option Addr) (c3 : Nat) (F : Nat → Prop), k ≤ n ∧ i = .int .i64 k ∧ o = .slice A3 q c3 ∧ q ≤ k ∧ n2 ≤ k ∧ Ln wr F g n2 (lostS l ended k) ∧ LostV wr V gv gw A1 c1 A2 k2 c2 M2 ∧ OwnR rkI wr wS.heap.size (.slice A3 q c3) q (sv (wantL l G ended k)) ∧ (∀ b, F b → w.heap.size ≤ b) ∧ (∀ b, V b → ¬ F b) ∧ (∀ b, (Value.slice A3 q c3).ownBlock = some b → ¬ F b) ∧ (∀ b, V b → b < wS.heap.size) ∧ wS.heap.size ≤ wr.heap.size ∧ Chg Non w wr) (fun _ i _ => n - (intOf i).toNat)
  case atStart => exact ⟨0, 0, 0, none, 0, F, Nat.zero_le _, rfl, rfl, Nat.le_refl _, Nat.le_refl _, hL, hlv, OwnR.nil _ _ _, hF, hVF2, (fun b hb => by simp [Value.ownBlock] at hb), hlv.lt, Nat.le_refl _, hC⟩
  case round =>
    clear hL hF hC hlv hVF2
    obtain ⟨k, n2, q, A3, c3, F, hk, rfl, rfl, hq, hn2, hL, hlv, hown, hF, hVF, hoF, hVl, hSr, hC⟩ := hrel
    by_cases hlt : k < n
    · obtain ⟨ad, x, rfl, hx, hcx⟩ := Hr.out.getI hlt
      obtain ⟨y, hy8, hyx⟩ := and7 x
      have hyv : yv l k = (y : Int) := by unfold yv; rw [List.getD_eq_getElem?_getD, hx]; exact hyx
      have hst := want_step l G ended k
      have qw := fun w => qc (show k < 256 by omega) w
      have hsp := lost_spawn l ended (show k < 16 by omega) (y : Int) hyv.symm
      have hnx := lost_next l ended k
      have hen := lost_end l ended k
      have hvid := id1_vid (show k < 16 by omega)
      have hsz : (id1 k).size ≤ 1000 := by show 1 ≤ 1000; decide
      rw [hyv] at hsp hnx hen
      obtain ⟨nm, hnm⟩ : ∃ nm, id1 k = nm := ⟨_, rfl⟩
      rw [hnm] at qw hst hsp hnx hen hsz
      have hbx : (lostB l G ended k) = (!decide ((k : Int) = ended) && ((y : Int) == G)) := by unfold lostB; rw [hyv]
      rw [hbx] at hst
      have qww := qw wr
      obtain ⟨w3, hw3⟩ : ∃ w3, wr.alloc (.cells #[.int .u8 (k : Int)] 5) = w3 := ⟨_, rfl⟩
      obtain ⟨w4, hw4⟩ : ∃ w4, w3.alloc (.cells #[.string nm] 27) = w4 := ⟨_, rfl⟩
      rw [hw3] at qww
      have hc4 : Chg Non wr w4 := hw4 ▸ (show Chg Non wr w3 from hw3 ▸ (Chg.refl _ _).alloc _).alloc _
      have hs3 : wr.heap.size ≤ w3.heap.size := (show Chg Non wr w3 from hw3 ▸ (Chg.refl _ _).alloc _).size
      have hr4 : Rds w4 1 (some ⟨w3.heap.size, 0, none⟩) 1 (sv [nm]) := hw4 ▸ Rds.one w3 _ _
      have hFl : ∀ b, F b → b < wr.heap.size := fun b hb => hL.lt hb
      have hSp := linSpawned_any w4 F g n2 (lostS l ended k) (hL.non hc4) (y : Int) 1 (some ⟨w3.heap.size, 0, none⟩) 1 1 [nm] hr4 (fun ad e _ h => by obtain rfl := Option.some.inj e; have := hFl _ h; have h2 : w3.heap.size < wr.heap.size := this; omega) (by omega) (by omega) (by intro a ha; simp at ha; subst ha; omega)
      have a0 : w3.cell? (ad.add k) = some (.int .i64 x) := (hC.non (show Chg Non wr w3 from hw3 ▸ (Chg.refl _ _).alloc _)).cell hcx id
      have al := World.block_lt_of_cell? w3 _ a0
      have Hsp := Lib.hid hsp
      have Hnx := Lib.hid hnx
      have Hen := Lib.hid hen
      have Hst := Lib.hid hst
      clear qw hst hsp hnx hen hnm hbx hyv hr4 hvid hx
      go_wp2_with fail
      refine hSp.mono ?_
      clear hSp a0 al hw3 qww
      rintro e w5 ⟨rfl, F5, n5, hL5, hn5, hF5, hc5⟩
      rw [Hsp.out] at hL5 ⊢
      have hn5 : n5 ≤ k + 1 := by simp at hn5; omega
      have hz4 := hc4.size
      have hC5 : Chg Non w w5 := (hC.non hc4).trans2 hc5 (fun b e => .inr (hF b e))
      have hS5 := hC5.size
      have hlv5 := (hlv.non hc4).chg hc5 hVF
      have hown5 := (hown.non hc4).chg hc5 hoF
      have hF5w : ∀ b, F5 b → w.heap.size ≤ b := fun b hb => (hF5 b hb).elim (hF b) (fun h => by have := hC.size; omega)
      have hVF5 : ∀ b, V b → ¬ F5 b := fun b hb h => (hF5 b h).elim (hVF b hb) (fun h => by have := hVl b hb; omega)
      have hoF5 : ∀ b, (Value.slice A3 q c3).ownBlock = some b → ¬ F5 b := fun b hb h => (hF5 b h).elim (hoF b hb) (fun h => by have := (hown.lt hb).2; omega)
      have hSr5 : wS.heap.size ≤ w5.heap.size := by have := hc5.size; omega
      have a0 := hC5.cell hcx id
      have al := World.block_lt_of_cell? w5 _ a0
      clear hL hlv hown hF hVF hoF hC hc4 hc5 hF5 hFl hSr hw4
      by_cases hke : (k : Int) = ended
      · subst hke
        have hEn := linEnded_any w5 F5 g n5 _ hL5 nm (by unfold maxLen; omega)
        rw [ended_yes (setR_self _ _ _) rfl, Hen.out rfl] at hEn
        have Hst2 : Hid (wantL l G (k : Int) (k + 1) = wantL l G (k : Int) k) := by show _ = _; rw [Hst.out]; simp
        clear hL5 Hsp Hnx Hen Hst
        go_wp2_with fail
        refine hEn.mono ?_
        clear hEn a0 al
        rintro e w8 ⟨rfl, F8, n8, hL8, hn8, hF8, hc8⟩
        have hC8 : Chg Non w w8 := hC5.trans2 hc8 (fun b e => .inr (hF5w b e))
        have hlv8 := hlv5.chg hc8 hVF5
        have hown8 := hown5.chg hc8 hoF5
        have hF8w : ∀ b, F8 b → w.heap.size ≤ b := fun b hb => (hF8 b hb).elim (hF5w b) (fun h => by have := hC5.size; omega)
        have hVF8 : ∀ b, V b → ¬ F8 b := fun b hb h => (hF8 b h).elim (hVF5 b hb) (fun h => by have := hVl b hb; omega)
        have hoF8 : ∀ b, (Value.slice A3 q c3).ownBlock = some b → ¬ F8 b := fun b hb h => (hF8 b h).elim (hoF5 b hb) (fun h => by have := (hown5.lt hb).2; omega)
        have hSr8 : wS.heap.size ≤ w8.heap.size := by have := hc8.size; omega
        clear hlv5 hown5 hF5w hVF5 hoF5 hC5 hc8 hF8
        go_wp2_with fail
        go_roundw
        case rel => exact ⟨k + 1, n8, q, A3, c3, F8, by omega, by go_num, rfl, by omega, by omega, hL8, hlv8, by rw [Hst2.out]; exact hown8, hF8w, hVF8, hoF8, hVl, hSr8, hC8⟩
        case measure => simp [intOf]; omega
      · have hD : ((k : Int) == ended) = false := beq_eq_false_iff_ne.2 hke
        rw [Hnx.out hke] at hL5
        cases hyg : ((y : Int) == G) with
        | false =>
          have Hst2 : Hid (wantL l G ended (k + 1) = wantL l G ended k) := by show _ = _; rw [Hst.out, hyg]; simp
          clear Hsp Hnx Hen Hst
          go_wp2_with fail
          go_roundw
          case rel => exact ⟨k + 1, n5, q, A3, c3, F5, by omega, by go_num, rfl, by omega, by omega, hL5, hlv5, by rw [Hst2.out]; exact hown5, hF5w, hVF5, hoF5, hVl, hSr5, hC5⟩
          case measure => simp [intOf]; omega
        | true =>
          have Hst2 : Hid (wantL l G ended (k + 1) = wantL l G ended k ++ [nm]) := by show _ = _; rw [Hst.out, hyg, decide_eq_false hke]; simp
          clear Hsp Hnx Hen Hst hke
          generalize wantL l G ended k = W at hown5 Hst2
          go_wp2_with (at_builtin; refine appR1 (K := rkI) rfl (.tmp 80) (.tmp 82) rfl hown5 rfl (cs := #[.string nm]) rfl rfl (svI_one [nm]) ?_ ?_ ?_; (next => omega); (next => exact hSr5); intro v6 w6 h6 hc6 hv6; obtain ⟨A6, c6, rfl, _⟩ := h6.open_)
          have hAV : ∀ b, (Value.slice A3 q c3).ownBlock = some b → wS.heap.size ≤ b := fun b hb => (hown5.lt hb).1
          have hlv6 := hlv5.chg hc6 (fun b hb h => by have := hAV b h; have := hVl b hb; omega)
          have hL6 := hL5.chg hc6 (fun b hb h => hoF5 b h hb)
          have hC6 : Chg Non w w6 := hC5.trans2 hc6 (fun b hb => .inr (by have := hAV b hb; omega))
          have h7 : OwnR rkI w6 wS.heap.size (.slice A6 (q + 1) c6) (q + 1) (sv (wantL l G ended (k + 1))) := by
            rw [Hst2.out, show sv (W ++ [nm]) = sv W ++ (#[.string nm] : Array Value).toList by simp [sv]]
            exact h6
          have hoF6 : ∀ b, (Value.slice A6 (q + 1) c6).ownBlock = some b → ¬ F5 b := fun b hb h => by
            rcases hv6 with hv | hv
            · rw [hv] at hb; exact hoF5 b hb h
            · rw [hv] at hb; have := Option.some.inj hb; have := hL5.lt h; omega
          have hSr6 : wS.heap.size ≤ w6.heap.size := by have := hc6.size; omega
          clear h6 hc6 hv6 hown5 hlv5 hL5 hC5 hoF5 hAV
          try go_wp2_with fail
          go_roundw
          case rel => exact ⟨k + 1, n5, q + 1, A6, c6, F5, by omega, by go_num, rfl, by omega, by omega, hL6, hlv6, h7, hF5w, hVF5, hoF6, hVl, hSr6, hC6⟩
          case measure => simp [intOf]; omega
    · obtain rfl : k = n := by omega
      have hkk : k ≤ 256 := by omega
      have hwrs := want_rises l G ended hkk
      have hws1 := fun a => want_such (gone := G) hkk (p := orphanP M2) (fun j _ => Horp.out j) a
      have hws2 := fun a => want_such (l := l) (gone := G) (ended := ended) hkk (p := fun r : Rc => r.node == G) (fun j _ => rfl) a
      have hor := lost_none (l := l) (ended := ended) hkk
      have hag1 := fun a => again_none (gone := G) hkk (p := orphanP M2) (fun j _ => Horp.out j) Hor0.out a
      have hag2 := fun a => again_none (l := l) (gone := G) (ended := ended) hkk (p := fun r : Rc => r.node == G) (fun j _ => rfl) Hof0.out a
      have hwat := fun i a (h : (wantL l G ended k)[i]? = some a) => want_at (l := l) (gone := G) (ended := ended) hkk h
      have hgt := fun i => ag_times l ended k ((wantL l G ended k).take i)
      generalize lostS l ended k = S at hL hws1 hws2 hor hag1 hag2 hwat hgt
      generalize wantL l G ended k = W at hown hwrs hws1 hws2 hag1 hag2 hwat hgt
      have hqW := Lib.hid hown.lenS
      have Hws1 := Lib.hid hws1
      have Hws2 := Lib.hid hws2
      have Hag1 := Lib.hid hag1
      have Hag2 := Lib.hid hag2
      have Hwat := Lib.hid hwat
      have Hgt := Lib.hid hgt
      have Hor := Lib.hid hor
      have Hrs := Lib.hid hwrs
      clear hws1 hws2 hag1 hag2 hwat hgt hor hwrs qc
      have x0 := hlv.hv.cell 0
      have x1 := hlv.hv.cell 1
      have xl := hlv.hv.lt
      simp only [List.getElem?_toArray, List.getElem?_cons_zero, List.getElem?_cons_succ] at x0 x1
      have hO1 := linOrphans_any wr F g n2 _ hL (by omega) 1 A1 8 c1 (firstM 8) hlv.rv (by omega)
      go_wp2_with fail
      refine hO1.mono ?_
      clear hO1 x0 x1 xl
      rintro e w10 ⟨B1, m1, d1, L1, rfl, _, hm1, ho1, hc10⟩
      obtain rfl : m1 = 0 := su_none ho1 hm1 Hor.out
      clear ho1 hm1
      replace hL := hL.non hc10
      replace hlv := hlv.non hc10
      replace hown := hown.non hc10
      replace hC := hC.non hc10
      have y0 := hlv.hw.cell 0
      have y1 := hlv.hw.cell 1
      have yl := hlv.hw.lt
      simp only [List.getElem?_toArray, List.getElem?_cons_zero, List.getElem?_cons_succ] at y0 y1
      have hO2 := linOrphans_any w10 F g n2 _ hL (by omega) 2 A2 k2 c2 M2 hlv.rw_ hs2
      have hSr10 : wS.heap.size ≤ w10.heap.size := by have := hc10.size; omega
      clear hc10 hSr
      go_wp2_with fail
      refine hO2.mono ?_
      clear hO2 y0 y1 yl
      rintro e w11 ⟨B2, m2, d2, L2, rfl, hr2, hm2, ho2, hc11⟩
      obtain rfl : L2 = W := rises_eqS hr2 Hrs.out fun z => (hm2 z).trans (Hws1.out z).symm
      obtain rfl : m2 = q := ho2.lenS.trans hqW.out.symm
      replace hL := hL.non hc11
      replace hlv := hlv.non hc11
      replace hown := hown.non hc11
      replace hC := hC.non hc11
      have hSr11 : wS.heap.size ≤ w11.heap.size := by have := hc11.size; omega
      have hI := sameIDs_same w11 B2 m2 d2 A3 c3 L2 ho2.rds hown.rds (by omega)
      clear ho2 hm2 hr2 hc11 hSr10
      go_wp2_with fail
      refine hI.mono ?_
      clear hI
      rintro e w12 ⟨rfl, hc12⟩
      replace hL := hL.non hc12
      replace hlv := hlv.non hc12
      replace hown := hown.non hc12
      replace hC := hC.non hc12
      have hSr12 : wS.heap.size ≤ w12.heap.size := by have := hc12.size; omega
      have hO3 := linOf_any w12 F g n2 _ hL (by omega) G
      clear hc12 hSr11
      go_wp2_with fail
      refine hO3.mono ?_
      clear hO3
      rintro e w13 ⟨B3, m3, d3, L3, rfl, hr2, hm2, ho2, hc11⟩
      obtain rfl : L3 = L2 := rises_eqS hr2 Hrs.out fun z => (hm2 z).trans (Hws2.out z).symm
      obtain rfl : m3 = m2 := ho2.lenS.trans hqW.out.symm
      replace hL := hL.non hc11
      replace hlv := hlv.non hc11
      replace hown := hown.non hc11
      replace hC := hC.non hc11
      have hSr13 : wS.heap.size ≤ w13.heap.size := by have := hc11.size; omega
      have hI := sameIDs_same w13 B3 m3 d3 A3 c3 L3 ho2.rds hown.rds (by omega)
      clear ho2 hm2 hr2 hc11 hSr12
      go_wp2_with fail
      refine hI.mono ?_
      clear hI
      rintro e wB ⟨rfl, hc12⟩
      replace hL := hL.non hc12
      replace hlv := hlv.non hc12
      replace hown := hown.non hc12
      replace hC := hC.non hc12
      have hWr := hown.rds
      have hWF : ∀ ad, A3 = some ad → ¬ F ad.block := fun ad e => hoF _ (by rw [e]; rfl)
      have hWl : ∀ ad, A3 = some ad → ad.block < wB.heap.size := fun ad e => (hown.lt (by rw [e]; rfl)).2
      have hVl2 : ∀ b, V b → b < wB.heap.size := hlv.lt
      have hn2' : n2 ≤ 1000 := by omega
      clear hown hoF hVl hSr13 hc12 hn2 hS6 Hws1 Hws2 Hor Hor0 Hof0 Horp Hrs
      go_wp2_with fail
      go_loopw [16] (fun i wr => ∃ (i2 n2 : Nat) (F : Nat → Prop), i2 ≤ m3 ∧ i = .int .i64 i2 ∧ n2 ≤ 1000 ∧ Ln wr F g n2 (agS S (L3.take i2)) ∧ LostV wr V gv gw A1 c1 A2 k2 c2 M2 ∧ Rds wr 1 A3 m3 (sv L3) ∧ (∀ b, F b → w.heap.size ≤ b) ∧ (∀ b, V b → ¬ F b) ∧ (∀ ad, A3 = some ad → ¬ F ad.block) ∧ wB.heap.size ≤ wr.heap.size ∧ Chg Non w wr) (fun i _ => m3 - (intOf i).toNat)
      case atStart => exact ⟨0, n2, F, Nat.zero_le _, rfl, hn2', hL, hlv, hWr, hF, hVF, hWF, Nat.le_refl _, hC⟩
      case round =>
        clear hL hlv hWr hF hVF hWF hC hn2'
        obtain ⟨i, n2, F, hi, rfl, hn2, hL, hlv, hWr, hF, hVF, hWF, hBr, hC⟩ := hrel
        by_cases hlt2 : i < m3
        · obtain ⟨ad, a, rfl, ha, hca⟩ := hWr.getS hlt2
          obtain ⟨hat, hasz⟩ := Hwat.out i a ha
          have htk : L3.take (i + 1) = L3.take i ++ [a] := by rw [List.take_add_one, ha]; rfl
          have hag := agS_snoc S (L3.take i) a
          rw [← htk] at hag
          have hin : agS S (L3.take (i + 1)) a = some ⟨0, 2, 2, false⟩ := by rw [hag]; exact setR_self _ _ _
          have hmax : a.size ≤ maxLen := by unfold maxLen; omega
          have hA1 : ∀ wx, Ln wx F g n2 (agS S (L3.take i)) → Calls Try.prog 10 #[.pointer (some ⟨g, 0, none⟩), .string a, .int .i64 0, .int .i64 2] wx (LnPost wx F g n2 (.bool true) (agS S (L3.take (i + 1)))) := fun wx h => by
            have h2 := linAgain_any wx F g n2 _ h (Hgt.out i) a hmax 0 2
            rw [again_yes hat rfl (by show (1 : Int) < 2; decide)] at h2
            rw [hag]
            exact h2
          have hA2 : ∀ wx F n2, Ln wx F g n2 (agS S (L3.take (i + 1))) → Calls Try.prog 10 #[.pointer (some ⟨g, 0, none⟩), .string a, .int .i64 0, .int .i64 2] wx (LnPost wx F g n2 (.bool false) (agS S (L3.take (i + 1)))) := fun wx F n2 h => by
            have h2 := linAgain_any wx F g n2 _ h (Hgt.out (i + 1)) a hmax 0 2
            rw [again_old hin (by show (2 : Int) ≤ 2; decide)] at h2
            exact h2
          have hT2 : timesR (agS S (L3.take (i + 1))) a = 2 := by unfold timesR; rw [hin]
          have HA1 := Lib.hid hA1
          have HA2 := Lib.hid hA2
          have HT2 := Lib.hid hT2
          have Hmax := Lib.hid hmax
          clear hA1 hA2 hT2 hat hasz htk hag hin ha hmax
          have ka : ∀ wx, Chg F wr wx → wx.cell? (ad.add i) = some (.string a) := fun wx h => h.cell hca (by rw [block_add]; exact hWF ad rfl)
          have ke : ∀ wx, Chg F wr wx → wx.cell? ⟨gw, 0, none⟩ = some (.int .i64 2) := fun wx h => h.cell (hlv.hw.cell 0) (hVF _ hlv.Vw)
          have gl := hlv.hw.lt
          have al := World.block_lt_of_cell? wr _ hca
          clear hca
          go_wp2_with fail
          refine st_region 8 F [7] [] (fun _ _ v w2 => ∃ F2 n3, Ln w2 F2 g n3 (agS S (L3.take (i + 1))) ∧ n3 ≤ 1000 ∧ (∀ b, F2 b → F b ∨ wr.heap.size ≤ b)) (fun _ _ _ _ => True) (fun _ _ v => v = .bool true) (fun w2 => Ln w2 F g n2 (agS S (L3.take i))) (by kernel_rfl) (by kernel_rfl) (fun b h => hL.lt h) (hL.non ((Chg.refl Non wr).drew)) (fun w ob h => h.non ((Chg.refl Non w).alloc ob)) ?_
          repeat (first | (refine st_pass (by rfl) ?_; simp only [Act.put, List.setIfInBounds_toArray, List.set_cons_succ, List.set_cons_zero]) | (refine st_plain (F) (wr) rfl rfl (f := ?_) (by rfl) rfl rfl (fun w hC hG => ?_) ?_; rotate_left; (clear hG; first | (go_simp; done) | (go_simp; with_reducible rfl) | (simp [*, go_sem, ↓IntWalk.iteOmega]; done) | (simp [*, go_sem, ↓IntWalk.iteOmega]; with_reducible rfl)); simp only [Act.put, List.setIfInBounds_toArray, List.set_cons_succ, List.set_cons_zero]))
          refine st_major (F) (wr) rfl rfl (by rfl) rfl (⟨_, rfl⟩) (fun _ _ _ _ _ _ => trivial) (fun v wx ob h => h.imp fun F2 h => h.imp fun n3 h => ⟨h.1.non ((Chg.refl _ wx).alloc ob), h.2⟩) (fun w hC hG hS => settle_of (r2 := ?_) ?_ ?_) ?_
          rotate_left
          (first | (go_simp; done) | (go_simp; rfl))
          · refine settle_enter ((HA1.out _ hS).mono ?_)
            rintro e w6 ⟨rfl, F6, n6, h6, hn6, hF6, hc6⟩
            exact ⟨_, rfl, rfl, hc6, ⟨F6, n6, h6, Nat.le_trans hn6 hn2, fun b hb => (hF6 b hb).imp id (fun h => Nat.le_trans hC.size h)⟩, trivial⟩
          · rintro v4 rfl
            simp only [Act.put, List.setIfInBounds_toArray, List.set_cons_succ, List.set_cons_zero]
            repeat (first | (refine st_pass (by rfl) ?_; simp only [Act.put, List.setIfInBounds_toArray, List.set_cons_succ, List.set_cons_zero]) | (refine st_plain (F) (wr) rfl rfl (f := ?_) (by rfl) rfl rfl (fun w hC hG => ?_) ?_; rotate_left; (clear hG; first | (go_simp; done) | (go_simp; with_reducible rfl) | (simp [*, go_sem, ↓IntWalk.iteOmega]; done) | (simp [*, go_sem, ↓IntWalk.iteOmega]; with_reducible rfl)); simp only [Act.put, List.setIfInBounds_toArray, List.set_cons_succ, List.set_cons_zero]))
            refine st_end F wr rfl rfl (fun w5 hC5 hS5 hG => ?_)
            obtain ⟨F5, n5, hL5, hn5, hF5⟩ := hS5
            have hlv5 := hlv.chg hC5 hVF
            have hWr5 := hWr.chg hC5 hWF
            have hCC5 : Chg Non w w5 := hC.trans2 hC5 (fun b e => .inr (hF b e))
            have hF5w : ∀ b, F5 b → w.heap.size ≤ b := fun b hb => (hF5 b hb).elim (hF b) (fun h => by have := hC.size; omega)
            have hVF5 : ∀ b, V b → ¬ F5 b := fun b hb h => (hF5 b h).elim (hVF b hb) (fun h => by have := hlv.lt b hb; omega)
            have hWF5 : ∀ ad2, some ad = some ad2 → ¬ F5 ad2.block := fun ad2 e h => (hF5 _ h).elim (hWF ad2 e) (fun h => by obtain rfl := Option.some.inj e; have := hWl ad rfl; omega)
            have hca5 := ka w5 hC5
            have hBr5 : wB.heap.size ≤ w5.heap.size := by have := hC5.size; omega
            clear hG ka ke gl al hL hlv hWr hC hF hVF hWF hF5 hC5 hBr
            have ka : ∀ wx, Chg F5 w5 wx → wx.cell? (ad.add i) = some (.string a) := fun wx h => h.cell hca5 (by rw [block_add]; exact hWF5 ad rfl)
            have ke : ∀ wx, Chg F5 w5 wx → wx.cell? ⟨gw, 0, none⟩ = some (.int .i64 2) := fun wx h => h.cell (hlv5.hw.cell 0) (hVF5 _ hlv5.Vw)
            have gl := hlv5.hw.lt
            have al := World.block_lt_of_cell? w5 _ hca5
            clear hca5
            go_wp2_with fail
            refine st_region 8 F5 [7] [] (fun _ _ v w2 => ∃ F2 n3, Ln w2 F2 g n3 (agS S (L3.take (i + 1))) ∧ n3 ≤ 1000 ∧ (∀ b, F2 b → F5 b ∨ w5.heap.size ≤ b)) (fun _ _ _ _ => True) (fun _ _ v => v = .bool false) (fun w2 => Ln w2 F5 g n5 (agS S (L3.take (i + 1)))) (by kernel_rfl) (by kernel_rfl) (fun b h => hL5.lt h) (hL5.non ((Chg.refl Non w5).drew)) (fun w ob h => h.non ((Chg.refl Non w).alloc ob)) ?_
            repeat (first | (refine st_pass (by rfl) ?_; simp only [Act.put, List.setIfInBounds_toArray, List.set_cons_succ, List.set_cons_zero]) | (refine st_plain (F5) (w5) rfl rfl (f := ?_) (by rfl) rfl rfl (fun w hC hG => ?_) ?_; rotate_left; (clear hG; first | (go_simp; done) | (go_simp; with_reducible rfl) | (simp [*, go_sem, ↓IntWalk.iteOmega]; done) | (simp [*, go_sem, ↓IntWalk.iteOmega]; with_reducible rfl)); simp only [Act.put, List.setIfInBounds_toArray, List.set_cons_succ, List.set_cons_zero]))
            refine st_major (F5) (w5) rfl rfl (by rfl) rfl (⟨_, rfl⟩) (fun _ _ _ _ _ _ => trivial) (fun v wx ob h => h.imp fun F2 h => h.imp fun n3 h => ⟨h.1.non ((Chg.refl _ wx).alloc ob), h.2⟩) (fun w hC hG hS => settle_of (r2 := ?_) ?_ ?_) ?_
            rotate_left
            (first | (go_simp; done) | (go_simp; rfl))
            · refine settle_enter ((HA2.out _ _ _ hS).mono ?_)
              rintro e w6 ⟨rfl, F6, n6, h6, hn6, hF6, hc6⟩
              exact ⟨_, rfl, rfl, hc6, ⟨F6, n6, h6, Nat.le_trans hn6 hn5, fun b hb => (hF6 b hb).imp id (fun h => Nat.le_trans hC.size h)⟩, trivial⟩
            · rintro v4 rfl
              simp only [Act.put, List.setIfInBounds_toArray, List.set_cons_succ, List.set_cons_zero]
              repeat (first | (refine st_pass (by rfl) ?_; simp only [Act.put, List.setIfInBounds_toArray, List.set_cons_succ, List.set_cons_zero]) | (refine st_plain (F5) (w5) rfl rfl (f := ?_) (by rfl) rfl rfl (fun w hC hG => ?_) ?_; rotate_left; (clear hG; first | (go_simp; done) | (go_simp; with_reducible rfl) | (simp [*, go_sem, ↓IntWalk.iteOmega]; done) | (simp [*, go_sem, ↓IntWalk.iteOmega]; with_reducible rfl)); simp only [Act.put, List.setIfInBounds_toArray, List.set_cons_succ, List.set_cons_zero]))
              refine st_end F5 w5 rfl rfl (fun w8 hC8 hS8 hG => ?_)
              obtain ⟨F8, n8, hL8, hn8, hF8⟩ := hS8
              have hlv8 := hlv5.chg hC8 hVF5
              have hWr8 := hWr5.chg hC8 hWF5
              have hCC8 : Chg Non w w8 := hCC5.trans2 hC8 (fun b e => .inr (hF5w b e))
              have hF8w : ∀ b, F8 b → w.heap.size ≤ b := fun b hb => (hF8 b hb).elim (hF5w b) (fun h => by have := hCC5.size; omega)
              have hVF8 : ∀ b, V b → ¬ F8 b := fun b hb h => (hF8 b h).elim (hVF5 b hb) (fun h => by have := hlv5.lt b hb; omega)
              have hWF8 : ∀ ad2, some ad = some ad2 → ¬ F8 ad2.block := fun ad2 e h => (hF8 _ h).elim (hWF5 ad2 e) (fun h => by obtain rfl := Option.some.inj e; have := hWl ad rfl; omega)
              have hca8 := ka w8 hC8
              have hBr8 : wB.heap.size ≤ w8.heap.size := by have := hC8.size; omega
              clear hG ka ke gl al hL5 hlv5 hWr5 hCC5 hF5w hVF5 hWF5 hF8 hC8 hBr5
              have al := World.block_lt_of_cell? w8 _ hca8
              have hTi := linTimes_any w8 F8 g n8 _ hL8 a Hmax.out
              rw [HT2.out] at hTi
              go_wp2_with fail
              refine hTi.mono ?_
              clear hTi
              rintro e w9 ⟨rfl, rfl⟩
              clear hca8 al
              go_wp2_with fail
              go_roundw
              case rel => exact ⟨i + 1, n8, F8, by omega, by go_num, hn8, hL8, hlv8, hWr8, hF8w, hVF8, hWF8, hBr8, hCC8⟩
              case measure => simp [intOf]; omega
        · have hst : L3.take i = L3 := List.take_of_length_le (by have := hqW.out; omega)
          rw [hst] at hL
          clear hst
          have y0 := hlv.hw.cell 0
          have y1 := hlv.hw.cell 1
          have yl := hlv.hw.lt
          simp only [List.getElem?_toArray, List.getElem?_cons_zero, List.getElem?_cons_succ] at y0 y1
          have hO2 := linOrphans_any wr F g n2 _ hL (by omega) 2 A2 k2 c2 M2 hlv.rw_ hs2
          go_wp2_with fail
          refine hO2.mono ?_
          clear hO2 y0 y1 yl
          rintro e w21 ⟨B4, m4, d4, L4, rfl, _, hm4, ho4, hc21⟩
          obtain rfl : m4 = 0 := su_none ho4 hm4 Hag1.out
          have hO3 := linOf_any w21 F g n2 _ (hL.non hc21) (by omega) G
          go_wp2_with fail
          refine hO3.mono ?_
          clear hO3
          rintro e w22 ⟨B5, m5, d5, L5, rfl, _, hm5, ho5, hc22⟩
          obtain rfl : m5 = 0 := su_none ho5 hm5 Hag2.out
          go_wp2_with fail
          go_ret
          exact ⟨rfl, (hC.non hc21).non hc22⟩

theorem lineageLost_walk (w : World) (A : Option Addr) (n c : Nat) (e0 : Rd Try.prog w 22 (Value.slice A n c).cells.toList) (gone : Int) (h1 : i64 gone) (ended : Int) (h2 : i64 ended) :
    Calls Try.prog 4 #[.slice A n c, .int .i64 gone, .int .i64 ended] w fun e w2 => e = .returned (.bool true) ∧ Chg Non w w2 := by
  obtain ⟨A', n', c', l, h5, h6, h7, h8, _⟩ := e0.ints Try.underlying22 (by kernel_rfl) Try.underlying3
  simp only [Value.cells, List.cons.injEq, and_true, Value.slice.injEq] at h5
  obtain ⟨rfl, rfl, rfl⟩ := h5
  by_cases h : n ≤ 16 ∧ 1 ≤ gone ∧ gone ≤ 7
  · exact lineageLost_core w A n c l ⟨gone.toNat, by omega⟩ (by show 0 < gone.toNat; omega) gone ended (by show gone = (gone.toNat : Int); omega) h8 h.1
  · exact lineageLost_much w A n c gone ended (by omega)
end Go.Proofs.Ytbkjpeelabdkfaa