/-
  gleanerref14.Taker.In of an offer, one way of four.
-/
import Derived.Test.YtflaliomkfbagaaMpRefT
import Derived.Test.YtflaliomkfbagaaRegionM
namespace Go.Proofs.Ytflaliomkfbagaa
section
open Go.RowKit
set_option linter.unusedVariables false
set_option linter.unusedSimpArgs false

set_option maxRecDepth 100000 in
set_option maxHeartbeats 16000000 in
theorem refTk_had (w : World) (F : Nat → Prop) (g : Nat) (r : RkS) (h : Rk w F g r) (n : Nt) (A : Option Addr) (k c : Nat) (B : Option Addr) (m d : Nat) (hN : NtAt w n A k c B m d) (hmay : n.clear.may = true) (hkind : n.kind = 4) (hl : r.O.length ≤ 1000000) (hH : r.H.length ≤ 1000000) (hcase : kindA r.O n.id n.epoch n.life = 0) (hyes : (r.H.length : Int) < r.room ∧ hasL r.H n.id = true) :
    Calls Try.prog 31 #[.pointer (some ⟨g, 0, none⟩), .agg (NtC n A k c B m d)] w (RtInPost w F g r n) := by
  have hFlt := h.lt
  obtain ⟨A1, z1, c1, A2, z2, c2, hat, hF, hz1, hz2⟩ := h.open_
  obtain ⟨w1, hw1⟩ : ∃ w1, w.alloc (.cells (NtC n A k c B m d) 59) = w1 := ⟨_, rfl⟩
  have hc1 : Chg Non w w1 := hw1 ▸ (Chg.refl _ _).alloc _
  have hs1 : w1.heap.size = w.heap.size + 1 := by rw [← hw1, World.size_alloc]
  have hbN : Blk w1 w.heap.size 59 (NtC n A k c B m d) := hw1 ▸ Blk.new _ _ _
  obtain ⟨w2, hw2⟩ : ∃ w2, w1.alloc (.cells #[.int .i64 0, .int .i64 0, .int .i64 0, .int .i64 0, .string ⟨#[]⟩, .int .i64 0, .slice none 0 0, .int .i64 0, .int .i64 0, .int .i64 0, .slice none 0 0] 59) = w2 := ⟨_, rfl⟩
  have hc2 : Chg Non w1 w2 := hw2 ▸ (Chg.refl _ _).alloc _
  have hbR : Blk w2 w1.heap.size 59 #[.int .i64 0, .int .i64 0, .int .i64 0, .int .i64 0, .string ⟨#[]⟩, .int .i64 0, .slice none 0 0, .int .i64 0, .int .i64 0, .int .i64 0, .slice none 0 0] := hw2 ▸ Blk.new _ _ _
  have hbN2 := hbN.non hc2
  rw [hs1] at hbR
  have hM := refMay_any w2 n A k c B m d (hN.non (hc1.non hc2))
  rw [hmay] at hM
  have hc12 := Lib.hid (hc1.non hc2)
  have HN2 := Lib.hid hbN2
  have HR2 := Lib.hid hbR
  have nl := hbN2.lt
  have n0 := hbN2.cell 0
  have n1 := hbN2.cell 1
  have n2 := hbN2.cell 2
  have n3 := hbN2.cell 3
  have n4 := hbN2.cell 4
  have n5 := hbN2.cell 5
  have n6 := hbN2.cell 6
  have n7 := hbN2.cell 7
  have n8 := hbN2.cell 8
  have n9 := hbN2.cell 9
  have n10 := hbN2.cell 10
  simp only [List.getElem?_toArray, List.getElem?_cons_zero, List.getElem?_cons_succ] at n0 n1 n2 n3 n4 n5 n6 n7 n8 n9 n10
  unfold NtC at hM
  have HgR : Hid (g ≠ w.heap.size + 1) := fun e => by have := hat.hb.lt; omega
  have HFlt := Lib.hid hFlt
  have Hat0 := Lib.hid hat
  have hz1l : z1 ≤ 1000000 := by omega
  have hz2l : z2 ≤ 1000000 := by omega
  have Hz1 : Hid (z1 = r.H.length) := hz1
  have Hz2 : Hid (z2 = r.O.length) := hz2
  have Hkd : Hid (n.kind = 4) := hkind
  have Hcase := Lib.hid hcase
  have Hyes := Lib.hid hyes
  clear hcase hyes
  clear hbN hbN2 hbR hc1 hc2 hN hmay hat h hFlt hz1 hz2 hl hH hkind
  go_enter Try.func31, Try.ntmps31
  go_wp2_with fail
  refine hM.mono ?_
  rintro e w3 ⟨rfl, hc3⟩
  have hR3 := HR2.out.non hc3
  have hN3 := HN2.out.non hc3
  have hcg := hc12.out.non hc3
  have hat3 := Hat0.out.non hcg
  have m0 : w3.cell? ⟨w.heap.size, 0, none⟩ = some (.int .i64 4) := by rw [← Hkd.out]; exact hN3.cell 0
  have ml := hN3.lt
  have k3 : w3.cell? ⟨g, 3, none⟩ = some (.slice A2 z2 c2) := hat3.hb.cell 3
  have hgl := hat3.hb.lt
  have HN3 := Lib.hid hN3
  have HR3 := Lib.hid hR3
  have Hat3 := Lib.hid hat3
  have Hcg := Lib.hid hcg
  clear hM hw1 hw2 hs1 nl n0 n1 n2 n3 n4 n5 n6 n7 n8 n9 n10 hR3 hN3 hcg hat3 hc3
  go_wp2_with fail
  go_loopw [7, 8] (fun v i wr => ∃ k : Nat, k ≤ z2 ∧ i = .int .i64 k ∧ v = .int .i64 (kindA (r.O.take k) n.id n.epoch n.life) ∧ Chg Non w3 wr) (fun _ i _ => z2 - (intOf i).toNat)
  case atStart => exact ⟨0, Nat.zero_le _, rfl, rfl, Chg.refl _ _⟩
  case round =>
    clear m0 ml k3 hgl
    obtain ⟨k, hk, rfl, rfl, hC⟩ := hrel
    have hatr := Hat3.out.non hC
    have hNr := HN3.out.non hC
    have k3 : wr.cell? ⟨g, 3, none⟩ = some (.slice A2 z2 c2) := hatr.hb.cell 3
    have hgl := hatr.hb.lt
    by_cases hlt : k < z2
    · have hkl : k < r.O.length := by have := Hz2.out; omega
      obtain ⟨x, hx⟩ : ∃ x, r.O[k]? = some x := ⟨_, List.getElem?_eq_getElem hkl⟩
      obtain ⟨gb, cc, hv, hcc, hcm, _⟩ := hatr.hO.form (by omega)
      injection hv with e1 e2 e3
      subst e1 e3
      have q0 : wr.cell? ⟨gb, k * 4, none⟩ = some (.string x.id) := hatr.hO.cellN cellRk_len hx (j := 0) rfl
      have q1 : wr.cell? ⟨gb, k * 4 + 1, none⟩ = some (.int .i64 x.ep) := hatr.hO.cellN cellRk_len hx (j := 1) rfl
      have q2 : wr.cell? ⟨gb, k * 4 + 2, none⟩ = some (.int .i64 x.num) := hatr.hO.cellN cellRk_len hx (j := 2) rfl
      have q3 : wr.cell? ⟨gb, k * 4 + 3, none⟩ = some (.int .i64 x.kind) := hatr.hO.cellN cellRk_len hx (j := 3) rfl
      have hgbl := World.block_lt_of_cell? wr _ q3
      have m2 : wr.cell? ⟨w.heap.size, 2, none⟩ = some (.int .i64 n.life) := hNr.cell 2
      have m3 : wr.cell? ⟨w.heap.size, 3, none⟩ = some (.int .i64 n.epoch) := hNr.cell 3
      have m4 : wr.cell? ⟨w.heap.size, 4, none⟩ = some (.string n.id) := hNr.cell 4
      have ml := hNr.lt
      have b1 : (0 : Int) ≤ (k : Int) := by omega
      have b2 : (k : Int) < z2 := by omega
      have hst := kindA_step hx n.id n.epoch n.life
      generalize hkv : kindA (r.O.take k) n.id n.epoch n.life = kv at hst ⊢
      have hz2m : z2 ≤ 9223372036854775807 := by omega
      by_cases h1 : x.id = n.id
      · have t1 : (x.id.toList == n.id.toList) = true := by rw [h1]; exact beq_self_eq_true _
        cases h2 : x.ep == n.epoch with
        | true =>
          cases h3 : x.num == n.life with
          | true =>
            have hst2 : Hid (kindA (r.O.take (k + 1)) n.id n.epoch n.life = x.kind) := by show _ = _; rw [hst]; unfold hitA; rw [decide_eq_true h1, h2, h3]; rfl
            clear hst hx hatr hNr h1 hkv
            go_wp2_with fail
            go_quiet (fail)
            go_wp2_with fail
            go_roundw
            case rel => exact ⟨k + 1, by omega, by go_num, by rw [hst2.out], hC.drewN _⟩
            case measure => simp [intOf]; omega
          | false =>
            have hst2 : Hid (kindA (r.O.take (k + 1)) n.id n.epoch n.life = kv) := by show _ = _; rw [hst]; unfold hitA; rw [h3, Bool.and_false]; rfl
            clear hst hx hatr hNr h1 hkv
            go_wp2_with fail
            go_quiet (fail)
            go_wp2_with fail
            go_roundw
            case rel => exact ⟨k + 1, by omega, by go_num, by rw [hst2.out], hC.drewN _⟩
            case measure => simp [intOf]; omega
        | false =>
          have hst2 : Hid (kindA (r.O.take (k + 1)) n.id n.epoch n.life = kv) := by show _ = _; rw [hst]; unfold hitA; rw [h2, Bool.and_false]; rfl
          clear hst hx hatr hNr h1 hkv
          go_wp2_with fail
          go_quiet (fail)
          go_wp2_with fail
          go_roundw
          case rel => exact ⟨k + 1, by omega, by go_num, by rw [hst2.out], hC.drewN _⟩
          case measure => simp [intOf]; omega
      · have t1 := str_ne h1
        have hst2 : Hid (kindA (r.O.take (k + 1)) n.id n.epoch n.life = kv) := by show _ = _; rw [hst]; unfold hitA; rw [decide_eq_false h1]; rfl
        clear hst hx hatr hNr h1 hkv
        go_wp2_with fail
        go_quiet (fail)
        go_wp2_with fail
        go_roundw
        case rel => exact ⟨k + 1, by omega, by go_num, by rw [hst2.out], hC.drewN _⟩
        case measure => simp [intOf]; omega
    · have hfull : r.O.take k = r.O := List.take_of_length_le (by have := Hz2.out; omega)
      rw [hfull]
      have hC5 := Hcg.out.non hC
      have hR9 := HR3.out.non hC
      have hN9 := hNr
      obtain ⟨w9, rfl⟩ : ∃ w9, w9 = wr := ⟨_, rfl⟩
      have Hat9 := Lib.hid hatr
      clear hfull hatr hNr hC HN3 HR3 Hat3
      rw [Hcase.out]
      have k1 : w9.cell? ⟨g, 1, none⟩ = some (.int .i64 r.room) := Hat9.out.hb.cell 1
      have k2 : w9.cell? ⟨g, 2, none⟩ = some (.slice A1 z1 c1) := Hat9.out.hb.cell 2
      have m4 : w9.cell? ⟨w.heap.size, 4, none⟩ = some (.string n.id) := hN9.cell 4
      have ml := hN9.lt
      have hroom : (z1 : Int) < r.room := by have := Hyes.out.1; have := Hz1.out; omega
      have hhas : ∀ j, Calls Try.prog 44 #[.slice A1 z1 c1, .string n.id] (w9.drewN j) fun e w2 => e = .returned (.bool true) ∧ w9.drewN j = w2 := fun j => by
        have h9 := refHas_any (w9.drewN j) A1 z1 c1 r.H n.id (Hat9.out.hH.rds.non ((Chg.refl _ _).drewN _)) (by omega)
        rw [Hyes.out.2] at h9
        exact h9
      go_wp2_with fail
      go_quiet ((go_at_call 44; exact quietW (hhas _)))
      obtain ⟨w5, hw5⟩ : ∃ w5, w9.drewN nq = w5 := ⟨_, rfl⟩
      have hcq : Chg Non w9 w5 := hw5 ▸ (Chg.refl _ w9).drewN _
      rw [hw5]
      replace hC5 := hC5.non hcq
      replace hR9 := hR9.non hcq
      replace hN9 := hN9.non hcq
      have Hat5 := Lib.hid (Hat9.out.non hcq)
      clear k1 k2 k3 m4 ml hgl hw5 hcq Hat9 hhas
      have hN6 := hN9
      have hR6 := hR9
      obtain ⟨w6, rfl⟩ : ∃ w6, w6 = w5 := ⟨_, rfl⟩
      have Hat6 := Hat5
      have HC6 : Hid (Chg F w w6) := hC5.of_non
      have HS6 : Hid (∀ b, F2 g (.slice A1 z1 c1) (.slice A2 z2 c2) b → F b ∨ w.heap.size ≤ b) := fun b hb => .inl (by rw [hF.out]; exact hb)
      have HnR6 : Hid (∀ b, F2 g (.slice A1 z1 c1) (.slice A2 z2 c2) b → b ≠ w.heap.size + 1 ∧ b ≠ w.heap.size) := fun b hb => by have := HFlt.out b (by rw [hF.out]; exact hb); omega
      clear hN9 hR9 Hat5 hroom
      have HnO : Hid (∀ b, (Value.slice A2 z2 c2).ownBlock = some b → b ≠ w.heap.size ∧ b ≠ w.heap.size + 1) := fun b hb => by have := HFlt.out b (by rw [hF.out]; exact .inr (.inr hb)); omega
      have kk : ∀ wx, Chg (fun b => (Value.slice A2 z2 c2).ownBlock = some b) w6 wx → wx.cell? ⟨g, 3, none⟩ = some (.slice A2 z2 c2) := fun wx h => (Hat6.out.hb.chg h (fun e => Hat6.out.gO _ e rfl)).cell 3
      have p4 : ∀ wx, Chg (fun b => (Value.slice A2 z2 c2).ownBlock = some b) w6 wx → wx.cell? ⟨w.heap.size, 4, none⟩ = some (.string n.id) := fun wx h => (hN6.chg h (fun e => (HnO.out _ e).1 rfl)).cell 4
      have p3 : ∀ wx, Chg (fun b => (Value.slice A2 z2 c2).ownBlock = some b) w6 wx → wx.cell? ⟨w.heap.size, 3, none⟩ = some (.int .i64 n.epoch) := fun wx h => (hN6.chg h (fun e => (HnO.out _ e).1 rfl)).cell 3
      have p2 : ∀ wx, Chg (fun b => (Value.slice A2 z2 c2).ownBlock = some b) w6 wx → wx.cell? ⟨w.heap.size, 2, none⟩ = some (.int .i64 n.life) := fun wx h => (hN6.chg h (fun e => (HnO.out _ e).1 rfl)).cell 2
      have hgl6 := Hat6.out.hb.lt
      have ml6 := hN6.lt
      have hgx : ∀ wx, Chg (fun b => (Value.slice A2 z2 c2).ownBlock = some b) w6 wx → g < wx.heap.size := fun wx h => Nat.lt_of_lt_of_le hgl6 h.size
      try go_wp2_with fail
      refine st_region_tail 10 17 (fun b => (Value.slice A2 z2 c2).ownBlock = some b) [14] [13] (fun _ _ v w2 => OwnR rkRk w2 0 v (z2 + 1) (Rkvs r.O ++ cellRk ⟨n.id, n.epoch, n.life, 6⟩) ∧ (∀ b, v.ownBlock = some b → (Value.slice A2 z2 c2).ownBlock = some b ∨ w6.heap.size ≤ b)) (fun _ _ _ _ => True) (fun _ _ v => ∃ A n c, v = .slice A n c) (fun w2 => OwnR rkRk w2 0 (.slice A2 z2 c2) z2 (Rkvs r.O)) (by kernel_rfl) (by kernel_rfl) (by kernel_rfl) (fun b h => (Hat6.out.hO.lt h).2) Hat6.out.hO (fun _ _ h => h.alloc _) ?_
      repeat (first | (refine st_pass (by rfl) ?_; simp only [Act.put, List.setIfInBounds_toArray, List.set_cons_succ, List.set_cons_zero]) | (refine st_plain (fun b => (Value.slice A2 z2 c2).ownBlock = some b) (w6) rfl rfl (f := ?_) (by rfl) rfl rfl (fun w hC hG => ?_) ?_; rotate_left; (clear hG; first | (go_simp; done) | (go_simp; with_reducible rfl) | (simp [*, go_sem, ↓IntWalk.iteOmega]; done) | (simp [*, go_sem, ↓IntWalk.iteOmega]; with_reducible rfl)); simp only [Act.put, List.setIfInBounds_toArray, List.set_cons_succ, List.set_cons_zero]))
      refine st_minor (fun b => (Value.slice A2 z2 c2).ownBlock = some b) w6 rfl rfl (ob := .cells #[.string n.id, .int .i64 n.epoch, .int .i64 n.life, .int .i64 6] 119) (kd := some (1, 1)) (by rfl) rfl rfl (fun w hC hG => by clear hG; go_simp; rfl) (fun g2 => ?_)
      simp only [Act.put, List.setIfInBounds_toArray, List.set_cons_succ, List.set_cons_zero]
      refine st_major (fun b => (Value.slice A2 z2 c2).ownBlock = some b) (w6) rfl rfl (by rfl) rfl (⟨.slice none 0 0, none, 0, 0, rfl⟩) (fun _ _ _ _ _ _ => trivial) (fun v w ob h => ⟨h.1.alloc ob, h.2⟩) (fun w hC hG hS => ?_) ?_
      · have hB := Rds.blockN (m := 1) (size := 4) (show Blk w g2 119 #[.string n.id, .int .i64 n.epoch, .int .i64 n.life, .int .i64 6] from (hG 13 rfl).2) rfl
        refine settle_appR (K := rkRk) (.tmp 109) (.tmp 118) rfl hS rfl hB rfl (cellRk_one ⟨n.id, n.epoch, n.life, 6⟩) (by omega) (Nat.zero_le _) ?_
        intro v2 w2 i2 i3 i4
        obtain ⟨A4, c4, rfl, _⟩ := i2.open_
        refine ⟨⟨_, _, _, rfl⟩, i3, ⟨i2, fun b hb => ?_⟩, trivial⟩
        rcases i4 with i4 | i4
        · exact .inl (i4 ▸ hb)
        · rw [i4] at hb
          obtain rfl := Option.some.inj hb
          exact .inr (by have := hC.size; omega)
      rintro v4 ⟨A6, n6, d6, rfl⟩
      simp only [Act.put, List.setIfInBounds_toArray, List.set_cons_succ, List.set_cons_zero]
      repeat (first | (refine st_pass (by rfl) ?_; simp only [Act.put, List.setIfInBounds_toArray, List.set_cons_succ, List.set_cons_zero]) | (refine st_plain (fun b => (Value.slice A2 z2 c2).ownBlock = some b) (w6) rfl rfl (f := ?_) (by rfl) rfl rfl (fun w hC hG => ?_) ?_; rotate_left; (clear hG; first | (go_simp; done) | (go_simp; with_reducible rfl) | (simp [*, go_sem, ↓IntWalk.iteOmega]; done) | (simp [*, go_sem, ↓IntWalk.iteOmega]; with_reducible rfl)); simp only [Act.put, List.setIfInBounds_toArray, List.set_cons_succ, List.set_cons_zero]))
      refine st_tail (fun b => (Value.slice A2 z2 c2).ownBlock = some b) w6 rfl rfl rfl (fun w7 c7 hS7 _ => ?_)
      simp only [List.drop_succ_cons, List.drop_zero]
      obtain ⟨o7, hv7⟩ : OwnR rkRk w7 0 (.slice A6 n6 d6) (z2 + 1) (Rkvs r.O ++ cellRk ⟨n.id, n.epoch, n.life, 6⟩) ∧ (∀ b, (Value.slice A6 n6 d6).ownBlock = some b → (Value.slice A2 z2 c2).ownBlock = some b ∨ w6.heap.size ≤ b) := hS7
      obtain rfl : n6 = z2 + 1 := by obtain ⟨_, _, e, _⟩ := o7.open_; injection e
      have hb7 := Hat6.out.hb.chg c7 (fun e => Hat6.out.gO _ e rfl)
      have f7 := hb7.frozen 3
      have k7 : w7.cell? ⟨g, 3, none⟩ = some (.slice A2 z2 c2) := hb7.cell 3
      have hgl7 := hb7.lt
      have hswO := Lib.hid (Hat6.out.swapO (R := r.O ++ [⟨n.id, n.epoch, n.life, 6⟩]) c7 (fun b e => e) (by rw [show Rkvs (r.O ++ [⟨n.id, n.epoch, n.life, 6⟩]) = Rkvs r.O ++ cellRk ⟨n.id, n.epoch, n.life, 6⟩ from flat_snoc _ _ _]; exact o7) (by rw [List.length_append, List.length_singleton, Hz2.out]) hv7)
      have hgw : g < w.heap.size := HFlt.out g (by rw [hF.out]; exact .inl rfl)
      have hN9 := (hN6.chg c7 (fun e => (HnO.out _ e).1 rfl)).chg ((Chg.refl (fun b => b = g) w7).set1 3 (.slice A6 (z2 + 1) d6)) (fun e => by have e : w.heap.size = g := e; omega)
      have hR9 := (hR6.chg c7 (fun e => (HnO.out _ e).2 rfl)).chg ((Chg.refl (fun b => b = g) w7).set1 3 (.slice A6 (z2 + 1) d6)) (fun e => by have e : w.heap.size + 1 = g := e; omega)
      obtain ⟨w9, hw9⟩ : ∃ w9, w7.setCell ⟨g, 3, none⟩ (.slice A6 (z2 + 1) d6) = w9 := ⟨_, rfl⟩
      rw [hw9] at hN9 hR9 hswO
      have Hat9 := Lib.hid hswO.out.at_
      have hz6 := HC6.out.size
      have HC9 : Hid (Chg F w w9) := HC6.out.trans2 hswO.out.chg (fun b e => HS6.out b e)
      have HS9 : Hid (∀ b, F2 g (.slice A1 z1 c1) (.slice A6 (z2 + 1) d6) b → (F b ∨ w.heap.size ≤ b) ∧ b ≠ w.heap.size + 1) := fun b hb => by
        have hl6 := hR6.lt
        rcases hswO.out.sub b hb with h | h
        · exact ⟨HS6.out b h, (HnR6.out b h).1⟩
        · exact ⟨.inr (by omega), by omega⟩
      have HEND : Hid (∀ w10, Chg (fun b => b = w.heap.size + 1) w9 w10 → RtInPost w F g r n (.returned (.tuple #[.agg (NtC (ansN 6 r.node n) none 0 0 none 0 0), .bool true])) w10) := fun w10 h10 => by
        have hy : tkYesR r n = false := by unfold tkYesR; rw [Hyes.out.2]; simp
        have hr1 : takeR r n = { r with O := r.O ++ [⟨n.id, n.epoch, n.life, 6⟩] } := by unfold takeR; rw [if_pos Hcase.out, hy]; rfl
        have hr2 : kindR r n = 6 := by unfold kindR; rw [if_pos Hcase.out, hy]; rfl
        unfold RtInPost
        rw [hr1, hr2]
        exact ⟨rfl, F2 g (.slice A1 z1 c1) (.slice A6 (z2 + 1) d6), ⟨_, _, _, _, _, _, Hat9.out.chg h10 HgR.out (fun b hb e => (HS9.out b (.inr (.inl hb))).2 e) (fun b hb e => (HS9.out b (.inr (.inr hb))).2 e), rfl⟩, fun b hb => (HS9.out b hb).1, HC9.out.trans2 h10 (fun b e => .inr (by have e : b = w.heap.size + 1 := e; omega))⟩
      clear o7 hv7 hb7 kk p2 p3 p4 hgl6 ml6 hgx hN6 hR6 c7 hC5 hgw hz6 hswO
      go_wp2_with fail
      clear f7 k7 hgl7
      have t1 : ∀ wx, Chg (fun b => b = w.heap.size + 1) w9 wx → wx.cell? ⟨g, 0, none⟩ = some (.int .i64 r.node) := fun wx hc => (Hat9.out.hb.chg hc HgR.out).cell 0
      have y2 : ∀ wx, Chg (fun b => b = w.heap.size + 1) w9 wx → wx.cell? ⟨w.heap.size, 2, none⟩ = some (.int .i64 n.life) := fun wx hc => (hN9.chg hc (fun e => by have e : w.heap.size = w.heap.size + 1 := e; omega)).cell 2
      have y3 : ∀ wx, Chg (fun b => b = w.heap.size + 1) w9 wx → wx.cell? ⟨w.heap.size, 3, none⟩ = some (.int .i64 n.epoch) := fun wx hc => (hN9.chg hc (fun e => by have e : w.heap.size = w.heap.size + 1 := e; omega)).cell 3
      have y4 : ∀ wx, Chg (fun b => b = w.heap.size + 1) w9 wx → wx.cell? ⟨w.heap.size, 4, none⟩ = some (.string n.id) := fun wx hc => (hN9.chg hc (fun e => by have e : w.heap.size = w.heap.size + 1 := e; omega)).cell 4
      have gl9 := Hat9.out.hb.lt
      have nl9 := hN9.lt
      try go_wp2_with fail
      refine st_region _ (fun b => b = w.heap.size + 1) [12] [] (fun _ _ _ w2 => Blk w2 (w.heap.size + 1) 59 #[.int .i64 6, .int .i64 r.node, .int .i64 n.life, .int .i64 n.epoch, .string n.id, .int .i64 0, .slice none 0 0, .int .i64 0, .int .i64 0, .int .i64 0, .slice none 0 0]) (fun _ _ _ _ => True) (fun _ _ v => v = undef) (fun w2 => Blk w2 (w.heap.size + 1) 59 #[.int .i64 0, .int .i64 0, .int .i64 0, .int .i64 0, .string ⟨#[]⟩, .int .i64 0, .slice none 0 0, .int .i64 0, .int .i64 0, .int .i64 0, .slice none 0 0]) (by kernel_rfl) (okB_of_F _ (by kernel_rfl)) (fun b e => by rw [e]; exact hR9.lt) hR9 (fun _ _ h => h.alloc _) ?_
      repeat (first | (refine st_pass (by rfl) ?_; simp only [Act.put, List.setIfInBounds_toArray, List.set_cons_succ, List.set_cons_zero]) | (refine st_plain (fun b => b = w.heap.size + 1) (w9) rfl rfl (f := ?_) (by rfl) rfl rfl (fun w hC hG => ?_) ?_; rotate_left; (clear hG; first | (go_simp; done) | (go_simp; with_reducible rfl) | (simp [*, go_sem, ↓IntWalk.iteOmega]; done) | (simp [*, go_sem, ↓IntWalk.iteOmega]; with_reducible rfl)); simp only [Act.put, List.setIfInBounds_toArray, List.set_cons_succ, List.set_cons_zero]))
      refine st_major (fun b => b = w.heap.size + 1) w9 rfl rfl (by rfl) rfl ⟨_, rfl⟩ (fun _ _ _ _ _ _ => trivial) (fun v wx ob h => h.alloc ob) (fun wx hC hG hS => ?_) ?_
      · skip
        have d0 := hS.cell 0
        have d1 := hS.cell 1
        have d2 := hS.cell 2
        have d3 := hS.cell 3
        have d4 := hS.cell 4
        have d5 := hS.cell 5
        have d6 := hS.cell 6
        have d7 := hS.cell 7
        have d8 := hS.cell 8
        have d9 := hS.cell 9
        have d10 := hS.cell 10
        simp only [List.getElem?_toArray, List.getElem?_cons_zero, List.getElem?_cons_succ] at d0 d1 d2 d3 d4 d5 d6 d7 d8 d9 d10
        have f0 := hS.frozen 0
        have f1 := hS.frozen 1
        have f2 := hS.frozen 2
        have f3 := hS.frozen 3
        have f4 := hS.frozen 4
        have f5 := hS.frozen 5
        have f6 := hS.frozen 6
        have f7 := hS.frozen 7
        have f8 := hS.frozen 8
        have f9 := hS.frozen 9
        have f10 := hS.frozen 10
        have hb4 := (((((((((((hS.put 0 (.int .i64 6)).put 1 (.int .i64 r.node)).put 2 (.int .i64 n.life)).put 3 (.int .i64 n.epoch)).put 4 (.string n.id)).put 5 (.int .i64 0)).put 6 (.slice none 0 0)).put 7 (.int .i64 0)).put 8 (.int .i64 0)).put 9 (.int .i64 0)).put 10 (.slice none 0 0))
        simp only [List.setIfInBounds_toArray, List.set_cons_succ, List.set_cons_zero] at hb4
        clear hG t1 y2 y3 y4
        refine settle_of (r2 := .ok .skip (((((((((((wx.setCell ⟨w.heap.size + 1, 0, none⟩ (.int .i64 6)).setCell ⟨w.heap.size + 1, 1, none⟩ (.int .i64 r.node)).setCell ⟨w.heap.size + 1, 2, none⟩ (.int .i64 n.life)).setCell ⟨w.heap.size + 1, 3, none⟩ (.int .i64 n.epoch)).setCell ⟨w.heap.size + 1, 4, none⟩ (.string n.id)).setCell ⟨w.heap.size + 1, 5, none⟩ (.int .i64 0)).setCell ⟨w.heap.size + 1, 6, none⟩ (.slice none 0 0)).setCell ⟨w.heap.size + 1, 7, none⟩ (.int .i64 0)).setCell ⟨w.heap.size + 1, 8, none⟩ (.int .i64 0)).setCell ⟨w.heap.size + 1, 9, none⟩ (.int .i64 0)).setCell ⟨w.heap.size + 1, 10, none⟩ (.slice none 0 0))) ?_ (settle_skip ⟨rfl, ((((((((((((Chg.refl _ _).set1 0 _).set1 1 _).set1 2 _).set1 3 _).set1 4 _).set1 5 _).set1 6 _).set1 7 _).set1 8 _).set1 9 _).set1 10 _), hb4, trivial⟩)
        first | (go_simp; done) | (go_simp; rfl)
      rintro v4 rfl
      simp only [Act.put, List.setIfInBounds_toArray, List.set_cons_succ, List.set_cons_zero]
      repeat (first | (refine st_pass (by rfl) ?_; simp only [Act.put, List.setIfInBounds_toArray, List.set_cons_succ, List.set_cons_zero]) | (refine st_plain (fun b => b = w.heap.size + 1) (w9) rfl rfl (f := ?_) (by rfl) rfl rfl (fun w hC hG => ?_) ?_; rotate_left; (clear hG; first | (go_simp; done) | (go_simp; with_reducible rfl) | (simp [*, go_sem, ↓IntWalk.iteOmega]; done) | (simp [*, go_sem, ↓IntWalk.iteOmega]; with_reducible rfl)); simp only [Act.put, List.setIfInBounds_toArray, List.set_cons_succ, List.set_cons_zero]))
      refine st_end (fun b => b = w.heap.size + 1) w9 rfl rfl (fun w10 hC10 hS10 hG => ?_)
      have hS10 : Blk w10 (w.heap.size + 1) 59 #[.int .i64 6, .int .i64 r.node, .int .i64 n.life, .int .i64 n.epoch, .string n.id, .int .i64 0, .slice none 0 0, .int .i64 0, .int .i64 0, .int .i64 0, .slice none 0 0] := hS10
      have r0 := hS10.cell 0
      have r1 := hS10.cell 1
      have r2 := hS10.cell 2
      have r3 := hS10.cell 3
      have r4 := hS10.cell 4
      have r5 := hS10.cell 5
      have r6 := hS10.cell 6
      have r7 := hS10.cell 7
      have r8 := hS10.cell 8
      have r9 := hS10.cell 9
      have r10 := hS10.cell 10
      simp only [List.getElem?_toArray, List.getElem?_cons_zero, List.getElem?_cons_succ] at r0 r1 r2 r3 r4 r5 r6 r7 r8 r9 r10
      have Hfin := Lib.hid (HEND.out w10 hC10)
      clear hG t1 y2 y3 y4 hS10 hC10 HEND
      try go_wp2_with fail
      exact bodyPost_ret (v := .tuple #[.agg #[.int .i64 6, .int .i64 r.node, .int .i64 n.life, .int .i64 n.epoch, .string n.id, .int .i64 0, .slice none 0 0, .int .i64 0, .int .i64 0, .int .i64 0, .slice none 0 0], .bool true]) (by simp [results, Try.results31, go_sem, r0, r1, r2, r3, r4, r5, r6, r7, r8, r9, r10]) rfl Hfin.out
end

section
open Go.RowKit
set_option linter.unusedVariables false
set_option linter.unusedSimpArgs false

set_option maxRecDepth 100000 in
set_option maxHeartbeats 16000000 in
theorem refTk_take (w : World) (F : Nat → Prop) (g : Nat) (r : RkS) (h : Rk w F g r) (n : Nt) (A : Option Addr) (k c : Nat) (B : Option Addr) (m d : Nat) (hN : NtAt w n A k c B m d) (hmay : n.clear.may = true) (hkind : n.kind = 4) (hl : r.O.length ≤ 1000000) (hH : r.H.length ≤ 1000000) (hcase : kindA r.O n.id n.epoch n.life = 0) (hyes : (r.H.length : Int) < r.room ∧ hasL r.H n.id = false) :
    Calls Try.prog 31 #[.pointer (some ⟨g, 0, none⟩), .agg (NtC n A k c B m d)] w (RtInPost w F g r n) := by
  have hFlt := h.lt
  obtain ⟨A1, z1, c1, A2, z2, c2, hat, hF, hz1, hz2⟩ := h.open_
  obtain ⟨w1, hw1⟩ : ∃ w1, w.alloc (.cells (NtC n A k c B m d) 59) = w1 := ⟨_, rfl⟩
  have hc1 : Chg Non w w1 := hw1 ▸ (Chg.refl _ _).alloc _
  have hs1 : w1.heap.size = w.heap.size + 1 := by rw [← hw1, World.size_alloc]
  have hbN : Blk w1 w.heap.size 59 (NtC n A k c B m d) := hw1 ▸ Blk.new _ _ _
  obtain ⟨w2, hw2⟩ : ∃ w2, w1.alloc (.cells #[.int .i64 0, .int .i64 0, .int .i64 0, .int .i64 0, .string ⟨#[]⟩, .int .i64 0, .slice none 0 0, .int .i64 0, .int .i64 0, .int .i64 0, .slice none 0 0] 59) = w2 := ⟨_, rfl⟩
  have hc2 : Chg Non w1 w2 := hw2 ▸ (Chg.refl _ _).alloc _
  have hbR : Blk w2 w1.heap.size 59 #[.int .i64 0, .int .i64 0, .int .i64 0, .int .i64 0, .string ⟨#[]⟩, .int .i64 0, .slice none 0 0, .int .i64 0, .int .i64 0, .int .i64 0, .slice none 0 0] := hw2 ▸ Blk.new _ _ _
  have hbN2 := hbN.non hc2
  rw [hs1] at hbR
  have hM := refMay_any w2 n A k c B m d (hN.non (hc1.non hc2))
  rw [hmay] at hM
  have hc12 := Lib.hid (hc1.non hc2)
  have HN2 := Lib.hid hbN2
  have HR2 := Lib.hid hbR
  have nl := hbN2.lt
  have n0 := hbN2.cell 0
  have n1 := hbN2.cell 1
  have n2 := hbN2.cell 2
  have n3 := hbN2.cell 3
  have n4 := hbN2.cell 4
  have n5 := hbN2.cell 5
  have n6 := hbN2.cell 6
  have n7 := hbN2.cell 7
  have n8 := hbN2.cell 8
  have n9 := hbN2.cell 9
  have n10 := hbN2.cell 10
  simp only [List.getElem?_toArray, List.getElem?_cons_zero, List.getElem?_cons_succ] at n0 n1 n2 n3 n4 n5 n6 n7 n8 n9 n10
  unfold NtC at hM
  have HgR : Hid (g ≠ w.heap.size + 1) := fun e => by have := hat.hb.lt; omega
  have HFlt := Lib.hid hFlt
  have Hat0 := Lib.hid hat
  have hz1l : z1 ≤ 1000000 := by omega
  have hz2l : z2 ≤ 1000000 := by omega
  have Hz1 : Hid (z1 = r.H.length) := hz1
  have Hz2 : Hid (z2 = r.O.length) := hz2
  have Hkd : Hid (n.kind = 4) := hkind
  have Hcase := Lib.hid hcase
  have Hyes := Lib.hid hyes
  clear hcase hyes
  clear hbN hbN2 hbR hc1 hc2 hN hmay hat h hFlt hz1 hz2 hl hH hkind
  go_enter Try.func31, Try.ntmps31
  go_wp2_with fail
  refine hM.mono ?_
  rintro e w3 ⟨rfl, hc3⟩
  have hR3 := HR2.out.non hc3
  have hN3 := HN2.out.non hc3
  have hcg := hc12.out.non hc3
  have hat3 := Hat0.out.non hcg
  have m0 : w3.cell? ⟨w.heap.size, 0, none⟩ = some (.int .i64 4) := by rw [← Hkd.out]; exact hN3.cell 0
  have ml := hN3.lt
  have k3 : w3.cell? ⟨g, 3, none⟩ = some (.slice A2 z2 c2) := hat3.hb.cell 3
  have hgl := hat3.hb.lt
  have HN3 := Lib.hid hN3
  have HR3 := Lib.hid hR3
  have Hat3 := Lib.hid hat3
  have Hcg := Lib.hid hcg
  clear hM hw1 hw2 hs1 nl n0 n1 n2 n3 n4 n5 n6 n7 n8 n9 n10 hR3 hN3 hcg hat3 hc3
  go_wp2_with fail
  go_loopw [7, 8] (fun v i wr => ∃ k : Nat, k ≤ z2 ∧ i = .int .i64 k ∧ v = .int .i64 (kindA (r.O.take k) n.id n.epoch n.life) ∧ Chg Non w3 wr) (fun _ i _ => z2 - (intOf i).toNat)
  case atStart => exact ⟨0, Nat.zero_le _, rfl, rfl, Chg.refl _ _⟩
  case round =>
    clear m0 ml k3 hgl
    obtain ⟨k, hk, rfl, rfl, hC⟩ := hrel
    have hatr := Hat3.out.non hC
    have hNr := HN3.out.non hC
    have k3 : wr.cell? ⟨g, 3, none⟩ = some (.slice A2 z2 c2) := hatr.hb.cell 3
    have hgl := hatr.hb.lt
    by_cases hlt : k < z2
    · have hkl : k < r.O.length := by have := Hz2.out; omega
      obtain ⟨x, hx⟩ : ∃ x, r.O[k]? = some x := ⟨_, List.getElem?_eq_getElem hkl⟩
      obtain ⟨gb, cc, hv, hcc, hcm, _⟩ := hatr.hO.form (by omega)
      injection hv with e1 e2 e3
      subst e1 e3
      have q0 : wr.cell? ⟨gb, k * 4, none⟩ = some (.string x.id) := hatr.hO.cellN cellRk_len hx (j := 0) rfl
      have q1 : wr.cell? ⟨gb, k * 4 + 1, none⟩ = some (.int .i64 x.ep) := hatr.hO.cellN cellRk_len hx (j := 1) rfl
      have q2 : wr.cell? ⟨gb, k * 4 + 2, none⟩ = some (.int .i64 x.num) := hatr.hO.cellN cellRk_len hx (j := 2) rfl
      have q3 : wr.cell? ⟨gb, k * 4 + 3, none⟩ = some (.int .i64 x.kind) := hatr.hO.cellN cellRk_len hx (j := 3) rfl
      have hgbl := World.block_lt_of_cell? wr _ q3
      have m2 : wr.cell? ⟨w.heap.size, 2, none⟩ = some (.int .i64 n.life) := hNr.cell 2
      have m3 : wr.cell? ⟨w.heap.size, 3, none⟩ = some (.int .i64 n.epoch) := hNr.cell 3
      have m4 : wr.cell? ⟨w.heap.size, 4, none⟩ = some (.string n.id) := hNr.cell 4
      have ml := hNr.lt
      have b1 : (0 : Int) ≤ (k : Int) := by omega
      have b2 : (k : Int) < z2 := by omega
      have hst := kindA_step hx n.id n.epoch n.life
      generalize hkv : kindA (r.O.take k) n.id n.epoch n.life = kv at hst ⊢
      have hz2m : z2 ≤ 9223372036854775807 := by omega
      by_cases h1 : x.id = n.id
      · have t1 : (x.id.toList == n.id.toList) = true := by rw [h1]; exact beq_self_eq_true _
        cases h2 : x.ep == n.epoch with
        | true =>
          cases h3 : x.num == n.life with
          | true =>
            have hst2 : Hid (kindA (r.O.take (k + 1)) n.id n.epoch n.life = x.kind) := by show _ = _; rw [hst]; unfold hitA; rw [decide_eq_true h1, h2, h3]; rfl
            clear hst hx hatr hNr h1 hkv
            go_wp2_with fail
            go_quiet (fail)
            go_wp2_with fail
            go_roundw
            case rel => exact ⟨k + 1, by omega, by go_num, by rw [hst2.out], hC.drewN _⟩
            case measure => simp [intOf]; omega
          | false =>
            have hst2 : Hid (kindA (r.O.take (k + 1)) n.id n.epoch n.life = kv) := by show _ = _; rw [hst]; unfold hitA; rw [h3, Bool.and_false]; rfl
            clear hst hx hatr hNr h1 hkv
            go_wp2_with fail
            go_quiet (fail)
            go_wp2_with fail
            go_roundw
            case rel => exact ⟨k + 1, by omega, by go_num, by rw [hst2.out], hC.drewN _⟩
            case measure => simp [intOf]; omega
        | false =>
          have hst2 : Hid (kindA (r.O.take (k + 1)) n.id n.epoch n.life = kv) := by show _ = _; rw [hst]; unfold hitA; rw [h2, Bool.and_false]; rfl
          clear hst hx hatr hNr h1 hkv
          go_wp2_with fail
          go_quiet (fail)
          go_wp2_with fail
          go_roundw
          case rel => exact ⟨k + 1, by omega, by go_num, by rw [hst2.out], hC.drewN _⟩
          case measure => simp [intOf]; omega
      · have t1 := str_ne h1
        have hst2 : Hid (kindA (r.O.take (k + 1)) n.id n.epoch n.life = kv) := by show _ = _; rw [hst]; unfold hitA; rw [decide_eq_false h1]; rfl
        clear hst hx hatr hNr h1 hkv
        go_wp2_with fail
        go_quiet (fail)
        go_wp2_with fail
        go_roundw
        case rel => exact ⟨k + 1, by omega, by go_num, by rw [hst2.out], hC.drewN _⟩
        case measure => simp [intOf]; omega
    · have hfull : r.O.take k = r.O := List.take_of_length_le (by have := Hz2.out; omega)
      rw [hfull]
      have hC5 := Hcg.out.non hC
      have hR9 := HR3.out.non hC
      have hN9 := hNr
      obtain ⟨w9, rfl⟩ : ∃ w9, w9 = wr := ⟨_, rfl⟩
      have Hat9 := Lib.hid hatr
      clear hfull hatr hNr hC HN3 HR3 Hat3
      rw [Hcase.out]
      have k1 : w9.cell? ⟨g, 1, none⟩ = some (.int .i64 r.room) := Hat9.out.hb.cell 1
      have k2 : w9.cell? ⟨g, 2, none⟩ = some (.slice A1 z1 c1) := Hat9.out.hb.cell 2
      have m4 : w9.cell? ⟨w.heap.size, 4, none⟩ = some (.string n.id) := hN9.cell 4
      have ml := hN9.lt
      have hroom : (z1 : Int) < r.room := by have := Hyes.out.1; have := Hz1.out; omega
      have hhas : ∀ j, Calls Try.prog 44 #[.slice A1 z1 c1, .string n.id] (w9.drewN j) fun e w2 => e = .returned (.bool false) ∧ w9.drewN j = w2 := fun j => by
        have h9 := refHas_any (w9.drewN j) A1 z1 c1 r.H n.id (Hat9.out.hH.rds.non ((Chg.refl _ _).drewN _)) (by omega)
        rw [Hyes.out.2] at h9
        exact h9
      go_wp2_with fail
      go_quiet ((go_at_call 44; exact quietW (hhas _)))
      obtain ⟨w5, hw5⟩ : ∃ w5, w9.drewN nq = w5 := ⟨_, rfl⟩
      have hcq : Chg Non w9 w5 := hw5 ▸ (Chg.refl _ w9).drewN _
      rw [hw5]
      replace hC5 := hC5.non hcq
      replace hR9 := hR9.non hcq
      replace hN9 := hN9.non hcq
      have Hat5 := Lib.hid (Hat9.out.non hcq)
      clear k1 k2 k3 m4 ml hgl hw5 hcq Hat9 hhas
      have k15 : w5.cell? ⟨g, 2, none⟩ = some (.slice A1 z1 c1) := Hat5.out.hb.cell 2
      have o05 : w5.cell? ⟨w.heap.size, 4, none⟩ = some (.string n.id) := hN9.cell 4
      have hgl5 := Hat5.out.hb.lt
      have kk : ∀ wx, Chg Non w5 wx → wx.cell? ⟨g, 2, none⟩ = some (.slice A1 z1 c1) := fun wx h => h.cell k15 id
      have ka : ∀ wx, Chg Non w5 wx → wx.cell? ⟨w.heap.size, 4, none⟩ = some (.string n.id) := fun wx h => h.cell o05 id
      have hglx : ∀ wx, Chg Non w5 wx → g < wx.heap.size := fun wx h => Nat.lt_of_lt_of_le hgl5 h.size
      go_wp2_with fail
      refine st_region_tail 8 10 Non [7] [] (fun _ _ v w2 => ∃ m, OwnR rkI w2 0 v m (sv (riseS n.id r.H)) ∧ ∀ b, v.ownBlock = some b → (Value.slice A1 z1 c1).ownBlock = some b ∨ w5.heap.size ≤ b) (fun _ _ _ _ => True) (fun _ _ v => ∃ A n c, v = .slice A n c) (fun _ => True) (by kernel_rfl) (by kernel_rfl) (by kernel_rfl) (fun _ h => h.elim) trivial (fun _ _ h => h) ?_
      repeat (first | (refine st_pass (by rfl) ?_; simp only [Act.put, List.setIfInBounds_toArray, List.set_cons_succ, List.set_cons_zero]) | (refine st_plain (Non) (w5) rfl rfl (f := ?_) (by rfl) rfl rfl (fun w hC hG => ?_) ?_; rotate_left; (clear hG; first | (go_simp; done) | (go_simp; with_reducible rfl) | (simp [*, go_sem, ↓IntWalk.iteOmega]; done) | (simp [*, go_sem, ↓IntWalk.iteOmega]; with_reducible rfl)); simp only [Act.put, List.setIfInBounds_toArray, List.set_cons_succ, List.set_cons_zero]))
      refine st_major (Non) (w5) rfl rfl (by rfl) rfl (⟨.slice none 0 0, none, 0, 0, rfl⟩) (fun _ _ _ _ _ _ => trivial) (fun v wx ob h => h.imp fun m h => ⟨h.1.alloc ob, h.2⟩) (fun w hC hG hS => settle_of (r2 := ?_) ?_ ?_) ?_
      rotate_left
      (first | (go_simp; done) | (go_simp; rfl))
      · refine settle_enter ((putS_any w 0 (Value.slice A1 z1 c1) z1 r.H n.id (Hat5.out.hH.non hC) (Nat.zero_le _) (by omega)).mono ?_)
        rintro e w6 ⟨v6, m6, rfl, o6, c6, hv6⟩
        obtain ⟨A6, d6, rfl, _⟩ := o6.open_
        exact ⟨_, rfl, ⟨_, _, _, rfl⟩, c6, ⟨m6, o6, fun b hb => (hv6 b hb).imp id (fun h => Nat.le_trans hC.size h)⟩, trivial⟩
      rintro v4 ⟨A8, m8, dB, rfl⟩
      simp only [Act.put, List.setIfInBounds_toArray, List.set_cons_succ, List.set_cons_zero]
      repeat (first | (refine st_pass (by rfl) ?_; simp only [Act.put, List.setIfInBounds_toArray, List.set_cons_succ, List.set_cons_zero]) | (refine st_plain (Non) (w5) rfl rfl (f := ?_) (by rfl) rfl rfl (fun w hC hG => ?_) ?_; rotate_left; (clear hG; first | (go_simp; done) | (go_simp; with_reducible rfl) | (simp [*, go_sem, ↓IntWalk.iteOmega]; done) | (simp [*, go_sem, ↓IntWalk.iteOmega]; with_reducible rfl)); simp only [Act.put, List.setIfInBounds_toArray, List.set_cons_succ, List.set_cons_zero]))
      refine st_tail Non w5 rfl rfl rfl (fun wP cP hS7 _ => ?_)
      simp only [List.drop_succ_cons, List.drop_zero]
      obtain ⟨m7, oP, hvP⟩ : ∃ m, OwnR rkI wP 0 (.slice A8 m8 dB) m (sv (riseS n.id r.H)) ∧ ∀ b, (Value.slice A8 m8 dB).ownBlock = some b → (Value.slice A1 z1 c1).ownBlock = some b ∨ w5.heap.size ≤ b := hS7
      obtain rfl : m8 = m7 := by obtain ⟨_, _, e, _⟩ := oP.open_; injection e
      have hswP := Lib.hid (Hat5.out.swapH (R := riseS n.id r.H) cP (fun _ e => e.elim) oP oP.lenS2 hvP)
      have kP := Hat5.out.hb.non cP
      have fP := kP.frozen 2
      have cellP : wP.cell? ⟨g, 2, none⟩ = some (Value.slice A1 z1 c1) := kP.cell 2
      have hglP := kP.lt
      have hN6 := (hN9.non cP).chg ((Chg.refl (fun b => b = g) wP).set1 2 (.slice A8 m8 dB)) (fun e => by have e : w.heap.size = g := e; have := HFlt.out g (by rw [hF.out]; exact .inl rfl); omega)
      have hR6 := (hR9.non cP).chg ((Chg.refl (fun b => b = g) wP).set1 2 (.slice A8 m8 dB)) (fun e => HgR.out (by have e : w.heap.size + 1 = g := e; exact e.symm))
      obtain ⟨w6, hw6⟩ : ∃ w6, wP.setCell ⟨g, 2, none⟩ (.slice A8 m8 dB) = w6 := ⟨_, rfl⟩
      rw [hw6] at hN6 hR6 hswP
      have Hat6 := Lib.hid hswP.out.at_
      have HC6 : Hid (Chg F w w6) := (hC5.of_non).trans2 hswP.out.chg (fun b e => .inl (by rw [hF.out]; exact e))
      have HS6 : Hid (∀ b, F2 g (.slice A8 m8 dB) (.slice A2 z2 c2) b → F b ∨ w.heap.size ≤ b) := fun b hb => (hswP.out.sub b hb).imp (fun e => by rw [hF.out]; exact e) (fun e => Nat.le_trans hC5.size e)
      have HnR6 : Hid (∀ b, F2 g (.slice A8 m8 dB) (.slice A2 z2 c2) b → b ≠ w.heap.size + 1 ∧ b ≠ w.heap.size) := fun b hb => by
        rcases hswP.out.sub b hb with h | h
        · have := HFlt.out b (by rw [hF.out]; exact h); omega
        · have := hR9.lt; omega
      clear kP oP hvP k15 o05 hgl5 kk ka hglx cP hN9 hR9
      go_wp2_with fail
      have HnO : Hid (∀ b, (Value.slice A2 z2 c2).ownBlock = some b → b ≠ w.heap.size ∧ b ≠ w.heap.size + 1) := fun b hb => by have := HFlt.out b (by rw [hF.out]; exact .inr (.inr hb)); omega
      have kk : ∀ wx, Chg (fun b => (Value.slice A2 z2 c2).ownBlock = some b) w6 wx → wx.cell? ⟨g, 3, none⟩ = some (.slice A2 z2 c2) := fun wx h => (Hat6.out.hb.chg h (fun e => Hat6.out.gO _ e rfl)).cell 3
      have p4 : ∀ wx, Chg (fun b => (Value.slice A2 z2 c2).ownBlock = some b) w6 wx → wx.cell? ⟨w.heap.size, 4, none⟩ = some (.string n.id) := fun wx h => (hN6.chg h (fun e => (HnO.out _ e).1 rfl)).cell 4
      have p3 : ∀ wx, Chg (fun b => (Value.slice A2 z2 c2).ownBlock = some b) w6 wx → wx.cell? ⟨w.heap.size, 3, none⟩ = some (.int .i64 n.epoch) := fun wx h => (hN6.chg h (fun e => (HnO.out _ e).1 rfl)).cell 3
      have p2 : ∀ wx, Chg (fun b => (Value.slice A2 z2 c2).ownBlock = some b) w6 wx → wx.cell? ⟨w.heap.size, 2, none⟩ = some (.int .i64 n.life) := fun wx h => (hN6.chg h (fun e => (HnO.out _ e).1 rfl)).cell 2
      have hgl6 := Hat6.out.hb.lt
      have ml6 := hN6.lt
      have hgx : ∀ wx, Chg (fun b => (Value.slice A2 z2 c2).ownBlock = some b) w6 wx → g < wx.heap.size := fun wx h => Nat.lt_of_lt_of_le hgl6 h.size
      try go_wp2_with fail
      refine st_region_tail 10 17 (fun b => (Value.slice A2 z2 c2).ownBlock = some b) [14] [13] (fun _ _ v w2 => OwnR rkRk w2 0 v (z2 + 1) (Rkvs r.O ++ cellRk ⟨n.id, n.epoch, n.life, 5⟩) ∧ (∀ b, v.ownBlock = some b → (Value.slice A2 z2 c2).ownBlock = some b ∨ w6.heap.size ≤ b)) (fun _ _ _ _ => True) (fun _ _ v => ∃ A n c, v = .slice A n c) (fun w2 => OwnR rkRk w2 0 (.slice A2 z2 c2) z2 (Rkvs r.O)) (by kernel_rfl) (by kernel_rfl) (by kernel_rfl) (fun b h => (Hat6.out.hO.lt h).2) Hat6.out.hO (fun _ _ h => h.alloc _) ?_
      repeat (first | (refine st_pass (by rfl) ?_; simp only [Act.put, List.setIfInBounds_toArray, List.set_cons_succ, List.set_cons_zero]) | (refine st_plain (fun b => (Value.slice A2 z2 c2).ownBlock = some b) (w6) rfl rfl (f := ?_) (by rfl) rfl rfl (fun w hC hG => ?_) ?_; rotate_left; (clear hG; first | (go_simp; done) | (go_simp; with_reducible rfl) | (simp [*, go_sem, ↓IntWalk.iteOmega]; done) | (simp [*, go_sem, ↓IntWalk.iteOmega]; with_reducible rfl)); simp only [Act.put, List.setIfInBounds_toArray, List.set_cons_succ, List.set_cons_zero]))
      refine st_minor (fun b => (Value.slice A2 z2 c2).ownBlock = some b) w6 rfl rfl (ob := .cells #[.string n.id, .int .i64 n.epoch, .int .i64 n.life, .int .i64 5] 119) (kd := some (1, 1)) (by rfl) rfl rfl (fun w hC hG => by clear hG; go_simp; rfl) (fun g2 => ?_)
      simp only [Act.put, List.setIfInBounds_toArray, List.set_cons_succ, List.set_cons_zero]
      refine st_major (fun b => (Value.slice A2 z2 c2).ownBlock = some b) (w6) rfl rfl (by rfl) rfl (⟨.slice none 0 0, none, 0, 0, rfl⟩) (fun _ _ _ _ _ _ => trivial) (fun v w ob h => ⟨h.1.alloc ob, h.2⟩) (fun w hC hG hS => ?_) ?_
      · have hB := Rds.blockN (m := 1) (size := 4) (show Blk w g2 119 #[.string n.id, .int .i64 n.epoch, .int .i64 n.life, .int .i64 5] from (hG 13 rfl).2) rfl
        refine settle_appR (K := rkRk) (.tmp 109) (.tmp 118) rfl hS rfl hB rfl (cellRk_one ⟨n.id, n.epoch, n.life, 5⟩) (by omega) (Nat.zero_le _) ?_
        intro v2 w2 i2 i3 i4
        obtain ⟨A4, c4, rfl, _⟩ := i2.open_
        refine ⟨⟨_, _, _, rfl⟩, i3, ⟨i2, fun b hb => ?_⟩, trivial⟩
        rcases i4 with i4 | i4
        · exact .inl (i4 ▸ hb)
        · rw [i4] at hb
          obtain rfl := Option.some.inj hb
          exact .inr (by have := hC.size; omega)
      rintro v4 ⟨A6, n6, d6, rfl⟩
      simp only [Act.put, List.setIfInBounds_toArray, List.set_cons_succ, List.set_cons_zero]
      repeat (first | (refine st_pass (by rfl) ?_; simp only [Act.put, List.setIfInBounds_toArray, List.set_cons_succ, List.set_cons_zero]) | (refine st_plain (fun b => (Value.slice A2 z2 c2).ownBlock = some b) (w6) rfl rfl (f := ?_) (by rfl) rfl rfl (fun w hC hG => ?_) ?_; rotate_left; (clear hG; first | (go_simp; done) | (go_simp; with_reducible rfl) | (simp [*, go_sem, ↓IntWalk.iteOmega]; done) | (simp [*, go_sem, ↓IntWalk.iteOmega]; with_reducible rfl)); simp only [Act.put, List.setIfInBounds_toArray, List.set_cons_succ, List.set_cons_zero]))
      refine st_tail (fun b => (Value.slice A2 z2 c2).ownBlock = some b) w6 rfl rfl rfl (fun w7 c7 hS7 _ => ?_)
      simp only [List.drop_succ_cons, List.drop_zero]
      obtain ⟨o7, hv7⟩ : OwnR rkRk w7 0 (.slice A6 n6 d6) (z2 + 1) (Rkvs r.O ++ cellRk ⟨n.id, n.epoch, n.life, 5⟩) ∧ (∀ b, (Value.slice A6 n6 d6).ownBlock = some b → (Value.slice A2 z2 c2).ownBlock = some b ∨ w6.heap.size ≤ b) := hS7
      obtain rfl : n6 = z2 + 1 := by obtain ⟨_, _, e, _⟩ := o7.open_; injection e
      have hb7 := Hat6.out.hb.chg c7 (fun e => Hat6.out.gO _ e rfl)
      have f7 := hb7.frozen 3
      have k7 : w7.cell? ⟨g, 3, none⟩ = some (.slice A2 z2 c2) := hb7.cell 3
      have hgl7 := hb7.lt
      have hswO := Lib.hid (Hat6.out.swapO (R := r.O ++ [⟨n.id, n.epoch, n.life, 5⟩]) c7 (fun b e => e) (by rw [show Rkvs (r.O ++ [⟨n.id, n.epoch, n.life, 5⟩]) = Rkvs r.O ++ cellRk ⟨n.id, n.epoch, n.life, 5⟩ from flat_snoc _ _ _]; exact o7) (by rw [List.length_append, List.length_singleton, Hz2.out]) hv7)
      have hgw : g < w.heap.size := HFlt.out g (by rw [hF.out]; exact .inl rfl)
      have hN9 := (hN6.chg c7 (fun e => (HnO.out _ e).1 rfl)).chg ((Chg.refl (fun b => b = g) w7).set1 3 (.slice A6 (z2 + 1) d6)) (fun e => by have e : w.heap.size = g := e; omega)
      have hR9 := (hR6.chg c7 (fun e => (HnO.out _ e).2 rfl)).chg ((Chg.refl (fun b => b = g) w7).set1 3 (.slice A6 (z2 + 1) d6)) (fun e => by have e : w.heap.size + 1 = g := e; omega)
      obtain ⟨w9, hw9⟩ : ∃ w9, w7.setCell ⟨g, 3, none⟩ (.slice A6 (z2 + 1) d6) = w9 := ⟨_, rfl⟩
      rw [hw9] at hN9 hR9 hswO
      have Hat9 := Lib.hid hswO.out.at_
      have hz6 := HC6.out.size
      have HC9 : Hid (Chg F w w9) := HC6.out.trans2 hswO.out.chg (fun b e => HS6.out b e)
      have HS9 : Hid (∀ b, F2 g (.slice A8 m8 dB) (.slice A6 (z2 + 1) d6) b → (F b ∨ w.heap.size ≤ b) ∧ b ≠ w.heap.size + 1) := fun b hb => by
        have hl6 := hR6.lt
        rcases hswO.out.sub b hb with h | h
        · exact ⟨HS6.out b h, (HnR6.out b h).1⟩
        · exact ⟨.inr (by omega), by omega⟩
      have HEND : Hid (∀ w10, Chg (fun b => b = w.heap.size + 1) w9 w10 → RtInPost w F g r n (.returned (.tuple #[.agg (NtC (ansN 5 r.node n) none 0 0 none 0 0), .bool true])) w10) := fun w10 h10 => by
        have hy : tkYesR r n = true := by unfold tkYesR; rw [decide_eq_true Hyes.out.1, Hyes.out.2]; rfl
        have hr1 : takeR r n = { { r with H := riseS n.id r.H } with O := r.O ++ [⟨n.id, n.epoch, n.life, 5⟩] } := by unfold takeR; rw [if_pos Hcase.out, hy]; rfl
        have hr2 : kindR r n = 5 := by unfold kindR; rw [if_pos Hcase.out, hy]; rfl
        unfold RtInPost
        rw [hr1, hr2]
        exact ⟨rfl, F2 g (.slice A8 m8 dB) (.slice A6 (z2 + 1) d6), ⟨_, _, _, _, _, _, Hat9.out.chg h10 HgR.out (fun b hb e => (HS9.out b (.inr (.inl hb))).2 e) (fun b hb e => (HS9.out b (.inr (.inr hb))).2 e), rfl⟩, fun b hb => (HS9.out b hb).1, HC9.out.trans2 h10 (fun b e => .inr (by have e : b = w.heap.size + 1 := e; omega))⟩
      clear o7 hv7 hb7 kk p2 p3 p4 hgl6 ml6 hgx hN6 hR6 c7 hC5 hgw hz6 hswO
      go_wp2_with fail
      clear f7 k7 hgl7
      have t1 : ∀ wx, Chg (fun b => b = w.heap.size + 1) w9 wx → wx.cell? ⟨g, 0, none⟩ = some (.int .i64 r.node) := fun wx hc => (Hat9.out.hb.chg hc HgR.out).cell 0
      have y2 : ∀ wx, Chg (fun b => b = w.heap.size + 1) w9 wx → wx.cell? ⟨w.heap.size, 2, none⟩ = some (.int .i64 n.life) := fun wx hc => (hN9.chg hc (fun e => by have e : w.heap.size = w.heap.size + 1 := e; omega)).cell 2
      have y3 : ∀ wx, Chg (fun b => b = w.heap.size + 1) w9 wx → wx.cell? ⟨w.heap.size, 3, none⟩ = some (.int .i64 n.epoch) := fun wx hc => (hN9.chg hc (fun e => by have e : w.heap.size = w.heap.size + 1 := e; omega)).cell 3
      have y4 : ∀ wx, Chg (fun b => b = w.heap.size + 1) w9 wx → wx.cell? ⟨w.heap.size, 4, none⟩ = some (.string n.id) := fun wx hc => (hN9.chg hc (fun e => by have e : w.heap.size = w.heap.size + 1 := e; omega)).cell 4
      have gl9 := Hat9.out.hb.lt
      have nl9 := hN9.lt
      try go_wp2_with fail
      refine st_region _ (fun b => b = w.heap.size + 1) [12] [] (fun _ _ _ w2 => Blk w2 (w.heap.size + 1) 59 #[.int .i64 5, .int .i64 r.node, .int .i64 n.life, .int .i64 n.epoch, .string n.id, .int .i64 0, .slice none 0 0, .int .i64 0, .int .i64 0, .int .i64 0, .slice none 0 0]) (fun _ _ _ _ => True) (fun _ _ v => v = undef) (fun w2 => Blk w2 (w.heap.size + 1) 59 #[.int .i64 0, .int .i64 0, .int .i64 0, .int .i64 0, .string ⟨#[]⟩, .int .i64 0, .slice none 0 0, .int .i64 0, .int .i64 0, .int .i64 0, .slice none 0 0]) (by kernel_rfl) (okB_of_F _ (by kernel_rfl)) (fun b e => by rw [e]; exact hR9.lt) hR9 (fun _ _ h => h.alloc _) ?_
      repeat (first | (refine st_pass (by rfl) ?_; simp only [Act.put, List.setIfInBounds_toArray, List.set_cons_succ, List.set_cons_zero]) | (refine st_plain (fun b => b = w.heap.size + 1) (w9) rfl rfl (f := ?_) (by rfl) rfl rfl (fun w hC hG => ?_) ?_; rotate_left; (clear hG; first | (go_simp; done) | (go_simp; with_reducible rfl) | (simp [*, go_sem, ↓IntWalk.iteOmega]; done) | (simp [*, go_sem, ↓IntWalk.iteOmega]; with_reducible rfl)); simp only [Act.put, List.setIfInBounds_toArray, List.set_cons_succ, List.set_cons_zero]))
      refine st_major (fun b => b = w.heap.size + 1) w9 rfl rfl (by rfl) rfl ⟨_, rfl⟩ (fun _ _ _ _ _ _ => trivial) (fun v wx ob h => h.alloc ob) (fun wx hC hG hS => ?_) ?_
      · skip
        have d0 := hS.cell 0
        have d1 := hS.cell 1
        have d2 := hS.cell 2
        have d3 := hS.cell 3
        have d4 := hS.cell 4
        have d5 := hS.cell 5
        have d6 := hS.cell 6
        have d7 := hS.cell 7
        have d8 := hS.cell 8
        have d9 := hS.cell 9
        have d10 := hS.cell 10
        simp only [List.getElem?_toArray, List.getElem?_cons_zero, List.getElem?_cons_succ] at d0 d1 d2 d3 d4 d5 d6 d7 d8 d9 d10
        have f0 := hS.frozen 0
        have f1 := hS.frozen 1
        have f2 := hS.frozen 2
        have f3 := hS.frozen 3
        have f4 := hS.frozen 4
        have f5 := hS.frozen 5
        have f6 := hS.frozen 6
        have f7 := hS.frozen 7
        have f8 := hS.frozen 8
        have f9 := hS.frozen 9
        have f10 := hS.frozen 10
        have hb4 := (((((((((((hS.put 0 (.int .i64 5)).put 1 (.int .i64 r.node)).put 2 (.int .i64 n.life)).put 3 (.int .i64 n.epoch)).put 4 (.string n.id)).put 5 (.int .i64 0)).put 6 (.slice none 0 0)).put 7 (.int .i64 0)).put 8 (.int .i64 0)).put 9 (.int .i64 0)).put 10 (.slice none 0 0))
        simp only [List.setIfInBounds_toArray, List.set_cons_succ, List.set_cons_zero] at hb4
        clear hG t1 y2 y3 y4
        refine settle_of (r2 := .ok .skip (((((((((((wx.setCell ⟨w.heap.size + 1, 0, none⟩ (.int .i64 5)).setCell ⟨w.heap.size + 1, 1, none⟩ (.int .i64 r.node)).setCell ⟨w.heap.size + 1, 2, none⟩ (.int .i64 n.life)).setCell ⟨w.heap.size + 1, 3, none⟩ (.int .i64 n.epoch)).setCell ⟨w.heap.size + 1, 4, none⟩ (.string n.id)).setCell ⟨w.heap.size + 1, 5, none⟩ (.int .i64 0)).setCell ⟨w.heap.size + 1, 6, none⟩ (.slice none 0 0)).setCell ⟨w.heap.size + 1, 7, none⟩ (.int .i64 0)).setCell ⟨w.heap.size + 1, 8, none⟩ (.int .i64 0)).setCell ⟨w.heap.size + 1, 9, none⟩ (.int .i64 0)).setCell ⟨w.heap.size + 1, 10, none⟩ (.slice none 0 0))) ?_ (settle_skip ⟨rfl, ((((((((((((Chg.refl _ _).set1 0 _).set1 1 _).set1 2 _).set1 3 _).set1 4 _).set1 5 _).set1 6 _).set1 7 _).set1 8 _).set1 9 _).set1 10 _), hb4, trivial⟩)
        first | (go_simp; done) | (go_simp; rfl)
      rintro v4 rfl
      simp only [Act.put, List.setIfInBounds_toArray, List.set_cons_succ, List.set_cons_zero]
      repeat (first | (refine st_pass (by rfl) ?_; simp only [Act.put, List.setIfInBounds_toArray, List.set_cons_succ, List.set_cons_zero]) | (refine st_plain (fun b => b = w.heap.size + 1) (w9) rfl rfl (f := ?_) (by rfl) rfl rfl (fun w hC hG => ?_) ?_; rotate_left; (clear hG; first | (go_simp; done) | (go_simp; with_reducible rfl) | (simp [*, go_sem, ↓IntWalk.iteOmega]; done) | (simp [*, go_sem, ↓IntWalk.iteOmega]; with_reducible rfl)); simp only [Act.put, List.setIfInBounds_toArray, List.set_cons_succ, List.set_cons_zero]))
      refine st_end (fun b => b = w.heap.size + 1) w9 rfl rfl (fun w10 hC10 hS10 hG => ?_)
      have hS10 : Blk w10 (w.heap.size + 1) 59 #[.int .i64 5, .int .i64 r.node, .int .i64 n.life, .int .i64 n.epoch, .string n.id, .int .i64 0, .slice none 0 0, .int .i64 0, .int .i64 0, .int .i64 0, .slice none 0 0] := hS10
      have r0 := hS10.cell 0
      have r1 := hS10.cell 1
      have r2 := hS10.cell 2
      have r3 := hS10.cell 3
      have r4 := hS10.cell 4
      have r5 := hS10.cell 5
      have r6 := hS10.cell 6
      have r7 := hS10.cell 7
      have r8 := hS10.cell 8
      have r9 := hS10.cell 9
      have r10 := hS10.cell 10
      simp only [List.getElem?_toArray, List.getElem?_cons_zero, List.getElem?_cons_succ] at r0 r1 r2 r3 r4 r5 r6 r7 r8 r9 r10
      have Hfin := Lib.hid (HEND.out w10 hC10)
      clear hG t1 y2 y3 y4 hS10 hC10 HEND
      try go_wp2_with fail
      exact bodyPost_ret (v := .tuple #[.agg #[.int .i64 5, .int .i64 r.node, .int .i64 n.life, .int .i64 n.epoch, .string n.id, .int .i64 0, .slice none 0 0, .int .i64 0, .int .i64 0, .int .i64 0, .slice none 0 0], .bool true]) (by simp [results, Try.results31, go_sem, r0, r1, r2, r3, r4, r5, r6, r7, r8, r9, r10]) rfl Hfin.out
end
end Go.Proofs.Ytflaliomkfbagaa
