/-
  gleanerref10.ReadNote of kind 4.
-/
import Derived.Test.YtclpmadecibofaaNoteRaw0
namespace Go.Proofs.Ytclpmadecibofaa
open Go.RowKit
set_option linter.unusedVariables false
set_option linter.unusedSimpArgs false

set_option maxRecDepth 100000 in
set_option maxHeartbeats 4000000 in
theorem raw_4 (w : World) (A0 : Option Addr) (n0 c0 : Nat) (L : List UInt8) (hr : Rds w 1 A0 n0 (bv L)) (hc0 : n0 ≤ c0) (hcm0 : c0 ≤ maxLen) (hL : L.length ≤ 1000000) (hk : (cInt L false).1 = 4) :
    Calls Try.prog 18 #[.slice A0 n0 c0] w (ReadPost w L) := by
  obtain ⟨w1, hw1⟩ : ∃ w1, w.alloc (.cells #[.int .i64 0, .int .i64 0, .int .i64 0, .int .i64 0, .string ⟨#[]⟩, .int .i64 0, .slice none 0 0, .int .i64 0, .int .i64 0, .int .i64 0, .slice none 0 0] 31) = w1 := ⟨_, rfl⟩
  obtain ⟨w2, hw2⟩ : ∃ w2, w1.alloc (.cells #[.slice A0 n0 c0, .int .i64 0, .bool false] 71) = w2 := ⟨_, rfl⟩
  obtain ⟨w3, hw3⟩ : ∃ w3, w2.alloc (.cells #[.int .i64 0, .int .i64 0, .int .i64 0, .int .i64 0, .string ⟨#[]⟩, .int .i64 0, .slice none 0 0, .int .i64 0, .int .i64 0, .int .i64 0, .slice none 0 0] 31) = w3 := ⟨_, rfl⟩
  have hS : RS w w3 w.heap.size w1.heap.size w2.heap.size Nt.zero L false none 0 0 none 0 0 := by
    have c1 : Chg Non w w1 := hw1 ▸ (Chg.refl _ _).alloc _
    have c2 : Chg Non w1 w2 := hw2 ▸ (Chg.refl _ _).alloc _
    have c3 : Chg Non w2 w3 := hw3 ▸ (Chg.refl _ _).alloc _
    have d1 : Blk w1 w.heap.size 31 (NtC Nt.zero none 0 0 none 0 0) := hw1 ▸ Blk.new _ _ _
    have d2 : Blk w2 w1.heap.size 71 #[.slice A0 n0 c0, .int .i64 (0 : Nat), .bool false] := hw2 ▸ Blk.new _ _ _
    have d3 : Blk w3 w2.heap.size 31 (NtC Nt.zero none 0 0 none 0 0) := hw3 ▸ Blk.new _ _ _
    have hrB := ((hr.non c1).non c2).non c3
    refine ⟨d3, ⟨zero_ok, OwnR.nil _ _ _, OwnR.nil _ _ _⟩, ⟨A0, n0, c0, L, 0, d2.non c3, hrB, hc0, hcm0, Nat.zero_le _, fun h0 ad e => ?_, rfl⟩, (d1.non c2).non c3, Nat.le_refl _, d1.lt, d2.lt, (c1.non c2).non c3⟩
    obtain ⟨a2, u, e2, _, hcl⟩ := hr.at_ h0
    rw [e] at e2
    cases e2
    have h9 := World.block_lt_of_cell? w _ hcl
    rw [block_add] at h9
    have := c1.size
    omega
  have hg1 : w1.heap.size = w.heap.size + 1 := by rw [← hw1]; simp
  have hg2 : w2.heap.size = w.heap.size + 1 + 1 := by rw [← hw2]; simp [hg1]
  have Hr := Lib.hid hr
  have hln := Lib.hid hr.lenMap
  clear hr
  go_enter Try.func18, Try.ntmps18
  go_wp2_with fail
  rw [hg1, hg2] at hS
  obtain ⟨nb, hnb⟩ : ∃ nb, w.heap.size + 1 + 1 = nb := ⟨_, rfl⟩
  obtain ⟨g, hgg⟩ : ∃ g, w.heap.size + 1 = g := ⟨_, rfl⟩
  rw [hnb, hgg] at hS ⊢
  clear hw1 hw2 hw3 hg1 hg2 hnb hgg
  refine (refCurInt_any g L false _ hS.cur).mono ?_
  rintro e w5 ⟨rfl, hcur, hc⟩
  have hi := cInt_i64 L false
  have hlq := cInt_len L false
  obtain ⟨⟨z1, R1, b1⟩, hq⟩ : ∃ q, cInt L false = q := ⟨_, rfl⟩
  rw [hq] at hcur hi hlq ⊢
  simp only at hcur hi hlq ⊢
  rw [hq] at hk
  obtain rfl : z1 = 4 := hk
  have Hq1 := Lib.hid hq
  have hT := hS.call hcur hc
  clear hq hc hcur hS
  have y0 := hT.note.cell 0
  simp only [NtC, Nt.zero, List.getElem?_toArray, List.getElem?_cons_zero, List.getElem?_cons_succ] at y0
  have f := hT.note.frozen 0
  go_wp2_with fail
  have hS := hT.put_kind hi
  clear hT f hi y0
  refine (refCurInt_any g R1 b1 _ hS.cur).mono ?_
  rintro e w5 ⟨rfl, hcur, hc⟩
  have hi := cInt_i64 R1 b1
  have hlq := cInt_len R1 b1
  obtain ⟨⟨z2, R2, b2⟩, hq⟩ : ∃ q, cInt R1 b1 = q := ⟨_, rfl⟩
  rw [hq] at hcur hi hlq ⊢
  simp only at hcur hi hlq ⊢
  have Hq2 := Lib.hid hq
  have hT := hS.call hcur hc
  clear hq hc hcur hS
  have y0 := hT.note.cell 0
  have y3 := hT.note.cell 3
  simp only [NtC, Nt.zero, List.getElem?_toArray, List.getElem?_cons_zero, List.getElem?_cons_succ] at y0 y3
  have f := hT.note.frozen 3
  go_wp2_with fail
  have hS := hT.put_epoch hi
  clear hT f hi y0 y3
  refine (refCurInt_any g R2 b2 _ hS.cur).mono ?_
  rintro e w5 ⟨rfl, hcur, hc⟩
  have hi := cInt_i64 R2 b2
  have hlq := cInt_len R2 b2
  obtain ⟨⟨z3, R3, b3⟩, hq⟩ : ∃ q, cInt R2 b2 = q := ⟨_, rfl⟩
  rw [hq] at hcur hi hlq ⊢
  simp only at hcur hi hlq ⊢
  have Hq3 := Lib.hid hq
  have hT := hS.call hcur hc
  clear hq hc hcur hS
  have y0 := hT.note.cell 0
  have y2 := hT.note.cell 2
  simp only [NtC, Nt.zero, List.getElem?_toArray, List.getElem?_cons_zero, List.getElem?_cons_succ] at y0 y2
  have f := hT.note.frozen 2
  go_wp2_with fail
  have hS := hT.put_life hi
  clear hT f hi y0 y2
  refine (refBytes_any g R3 b3 _ hS.cur (by omega)).mono ?_
  rintro e w5 ⟨v, rfl, hv, hcur, hc⟩
  obtain ⟨A9, n9, c9, rfl, hn9, _, hcm9, hr9⟩ := hv.open_
  have hlen : (cBytes R3 b3).1.length ≤ maxLen := by have h1 := hn9.out; omega
  have hlq := cBytes_le R3 b3
  have q9 := run_string_rds Try.underlying34 Try.underlying5 Try.underlying22 hr9 c9
  obtain ⟨⟨z4, R4, b4⟩, hq⟩ : ∃ q, cBytes R3 b3 = q := ⟨_, rfl⟩
  rw [hq] at hcur hlq q9 hlen
  simp only at hcur hlq q9 hlen
  have Hq4 := Lib.hid hq
  have hT := hS.call hcur hc
  clear hq hc hcur hS hv hn9 hr9
  have y0 := hT.note.cell 0
  have y4 := hT.note.cell 4
  simp only [NtC, Nt.zero, List.getElem?_toArray, List.getElem?_cons_zero, List.getElem?_cons_succ] at y0 y4
  have f := hT.note.frozen 4
  go_wp2_with fail
  have hS := hT.put_id (z := ⟨z4.toArray⟩) (by show z4.toArray.size ≤ maxLen; simpa using hlen)
  clear hT f q9 hlen y0 y4
  refine (refCurInt_any g R4 b4 _ hS.cur).mono ?_
  rintro e w5 ⟨rfl, hcur, hc⟩
  have hi := cInt_i64 R4 b4
  have hlq := cInt_len R4 b4
  obtain ⟨⟨z5, R5, b5⟩, hq⟩ : ∃ q, cInt R4 b4 = q := ⟨_, rfl⟩
  rw [hq] at hcur hi hlq ⊢
  simp only at hcur hi hlq ⊢
  have Hq5 := Lib.hid hq
  have hT := hS.call hcur hc
  clear hq hc hcur hS
  have y0 := hT.note.cell 0
  have y5 := hT.note.cell 5
  simp only [NtC, Nt.zero, List.getElem?_toArray, List.getElem?_cons_zero, List.getElem?_cons_succ] at y0 y5
  have f := hT.note.frozen 5
  go_wp2_with fail
  have hS := hT.put_fn hi
  clear hT f hi y0 y5
  refine (refCurInt_any g R5 b5 _ hS.cur).mono ?_
  rintro e w5 ⟨rfl, hcur, hc⟩
  have hlq := cInt_len R5 b5
  obtain ⟨⟨z6, R6, b6⟩, hq⟩ : ∃ q, cInt R5 b5 = q := ⟨_, rfl⟩
  rw [hq] at hcur hlq ⊢
  simp only at hcur hlq ⊢
  have Hq6 := Lib.hid hq
  have hT := hS.call hcur hc
  clear hq hc hcur hS
  obtain ⟨o1, ho1⟩ := hT.name
  rw [← ho1] at hT
  obtain ⟨N, hN⟩ : ∃ N, cnt 19 z6 = N := ⟨_, rfl⟩
  have hN1 : N ≤ 20 := by unfold cnt at hN; omega
  have hN2 : ∀ j : Nat, j < N → (j : Int) < z6 ∧ (j : Int) < 20 := fun j h => by unfold cnt at hN; omega
  have hN3 : ¬ (N : Int) < z6 ∨ ((N : Int) < z6 ∧ ¬ (N : Int) < 20) := by unfold cnt at hN; omega
  have HN := Lib.hid hN
  have HN2 := Lib.hid hN2
  have HN3 := Lib.hid hN3
  have ha0 : o1 = { o1 with args := [] } := by subst ho1; rfl
  have hini : RelQ w w.heap.size g nb o1 R6 b6 N (.int .i64 0) w5 := ⟨0, R6, b6, [], none, 0, 0, none, 0, 0, Nat.zero_le _, rfl, by rw [← ha0]; exact hT, Nat.le_refl _, by simp⟩
  have Hini := Lib.hid hini
  have Ho1 := Lib.hid ho1
  clear hini hT hN hN2 hN3 ha0 ho1
  go_wp2_with fail
  go_loopw [12] (RelQ w w.heap.size g nb o1 R6 b6 N) (fun i _ => N - (intOf i).toNat)
  case atStart => exact Hini.out
  case round =>
    clear Hini
    obtain ⟨j, Rj, bj, la, A, k, c, B, m, d, hj, rfl, hS, hla, hlp⟩ := hrel
    have cb := hS.cur.badCell
    have hgl := hS.cur.lt
    by_cases hgo : j < N ∧ bj = false
    · obtain ⟨hlt, rfl⟩ := hgo
      obtain ⟨e1, e2⟩ := HN2.out j hlt
      have hi := cInt_i64 Rj false
      obtain ⟨⟨y, R5, b5⟩, hq5⟩ : ∃ q, cInt Rj false = q := ⟨_, rfl⟩
      rw [hq5] at hi
      simp only at hi
      have hgo2 := lpI_go hlp hlt hq5
      have hlk := hS.own.lenA
      simp only at hlk
      obtain ⟨r1, r2⟩ := hS.rows
      have hnl := hS.note.lt
      have hb3 := hS.b3
      have hob : ∀ b, (Value.slice A k c).ownBlock = some b → nb < b ∧ b < wr.heap.size := fun b hb => ⟨r1 b hb, (hS.own.args.lt hb).2⟩
      obtain ⟨T, hT⟩ : ∃ T : Nat → Prop, T = fun b => b = g ∨ (Value.slice A k c).ownBlock = some b := ⟨_, rfl⟩
      have hTn : ¬ T nb := by rw [hT]; rintro (e | e); (· omega); (· have := (hob _ e).1; omega)
      have k0 : ∀ w2, Chg T wr w2 → w2.cell? ⟨nb, 6, none⟩ = some (.slice A k c) := fun w2 h => h.cell (hS.note.cell 6) hTn
      have hTlt : ∀ b, T b → b < wr.heap.size := by rw [hT]; rintro b (e | e); (· omega); exact (hob b e).2
      have HT := Lib.hid hT
      have Hq5 := Lib.hid hq5
      have HS := Lib.hid hS
      have Hlp := Lib.hid hgo2
      have HA := Lib.hid hS.own.args
      have hcu := hS.cur
      clear hT hq5 hS hlp hgo2 r1 r2
      go_wp2_with fail
      refine st_region_tail 8 7 T [3, 5] [4] (fun i _ v w2 => RCur w2 g R5 b5 ∧ (if i = 3 then OwnR rkN w2 (nb + 1) (.slice A k c) k (iv la) else OwnR rkN w2 (nb + 1) v (k + 1) (iv (la ++ [y])) ∧ (∀ b, v.ownBlock = some b → (Value.slice A k c).ownBlock = some b ∨ wr.heap.size ≤ b))) (fun _ _ _ _ => True) (fun i _ v => if i = 3 then v = .int .i64 y else ∃ A n c, v = .slice A n c) (fun w2 => RCur w2 g Rj false ∧ OwnR rkN w2 (nb + 1) (.slice A k c) k (iv la)) (by kernel_rfl) (by kernel_rfl) (by kernel_rfl) hTlt ⟨hcu, HA.out⟩ (fun _ _ h => ⟨h.1.non ((Chg.refl _ _).alloc _), h.2.alloc _⟩) ?_
      repeat (first | (refine st_pass (by rfl) ?_; simp only [Act.put, List.setIfInBounds_toArray, List.set_cons_succ, List.set_cons_zero]) | (refine st_plain (T) (wr) rfl rfl (f := ?_) (by rfl) rfl rfl (fun w hC hG => ?_) ?_; rotate_left; (clear hG; first | (go_simp; done) | (go_simp; with_reducible rfl) | (simp [*, go_sem, ↓IntWalk.iteOmega]; done) | (simp [*, go_sem, ↓IntWalk.iteOmega]; with_reducible rfl)); simp only [Act.put, List.setIfInBounds_toArray, List.set_cons_succ, List.set_cons_zero]))
      refine st_major (T) (wr) rfl rfl (by rfl) rfl (⟨.int .i64 y, rfl⟩) (fun _ _ _ _ _ _ => trivial) (fun v w ob h => ⟨h.1.non ((Chg.refl _ _).alloc _), h.2.alloc _⟩) (fun w hC hG hS => settle_of (r2 := ?_) ?_ ?_) ?_
      rotate_left
      (first | (go_simp; done) | (go_simp; rfl))
      · refine settle_enter ((refCurInt_any g Rj false _ hS.1).mono ?_)
        rintro e w6 ⟨rfl, hcur6, hc6⟩
        rw [Hq5.out] at hcur6 ⊢
        refine ⟨_, rfl, rfl, hc6.mono (fun b e => by rw [HT.out]; exact .inl e), ⟨hcur6, hS.2.chg hc6 (fun b hb e => by have := (hob b hb).1; have e : b = g := e; omega)⟩, trivial⟩
      · rintro v4 hv4
        obtain rfl : v4 = .int .i64 y := hv4
        simp only [Act.put, List.setIfInBounds_toArray, List.set_cons_succ, List.set_cons_zero]
        refine st_minor T wr rfl rfl (ob := .cells #[.int .i64 y] 3) (kd := some (1, 1)) (by rfl) rfl rfl (fun w hC hG => by clear hG; go_simp; rfl) (fun g2 => ?_)
        simp only [Act.put, List.setIfInBounds_toArray, List.set_cons_succ, List.set_cons_zero]
        refine st_major (T) (wr) rfl rfl (by rfl) rfl (⟨.slice none 0 0, none, 0, 0, rfl⟩) (fun _ _ _ _ _ _ => trivial) (fun v w ob h => ⟨h.1.non ((Chg.refl _ _).alloc _), h.2.1.alloc _, h.2.2⟩) (fun w hC hG hS => ?_) ?_
        · have hB : Rds w 1 (some ⟨g2, 0, none⟩) 1 [.int .i64 y] := Rds.block (cs := #[.int .i64 y]) (show w.heap[g2]? = _ from (hG 4 rfl).2) rfl
          refine settle_appR (K := rkN) (.tmp 182) (.tmp 185) rfl hS.2 rfl hB rfl (iv_one' [y]) (by omega) (by have := hC.size; omega) ?_
          intro v2 w2 h2 h3 h4
          obtain ⟨A2, c2, rfl, _⟩ := h2.open_
          refine ⟨⟨_, _, _, rfl⟩, h3.mono (fun b e => by rw [HT.out]; exact .inr e), ⟨hS.1.low h3 (fun b e => by have := (hob b e).1; omega), ?_, fun b hb => ?_⟩, trivial⟩
          · simpa [iv] using h2
          · rcases h4 with h4 | h4
            · exact .inl (h4 ▸ hb)
            · rw [h4] at hb
              obtain rfl := Option.some.inj hb
              exact .inr hC.size
        · rintro v5 ⟨A5, n5, c5, rfl⟩
          simp only [Act.put, List.setIfInBounds_toArray, List.set_cons_succ, List.set_cons_zero]
          repeat (first | (refine st_pass (by rfl) ?_; simp only [Act.put, List.setIfInBounds_toArray, List.set_cons_succ, List.set_cons_zero]) | (refine st_plain (T) (wr) rfl rfl (f := ?_) (by rfl) rfl rfl (fun w hC hG => ?_) ?_; rotate_left; (clear hG; first | (go_simp; done) | (go_simp; with_reducible rfl) | (simp [*, go_sem, ↓IntWalk.iteOmega]; done) | (simp [*, go_sem, ↓IntWalk.iteOmega]; with_reducible rfl)); simp only [Act.put, List.setIfInBounds_toArray, List.set_cons_succ, List.set_cons_zero]))
          refine st_tail T wr rfl rfl rfl (fun w7 hC7 hS7 _ => ?_)
          simp only [List.drop_succ_cons, List.drop_zero]
          obtain ⟨hcur7, ho7, hob7⟩ := hS7
          obtain rfl : n5 = k + 1 := by
            obtain ⟨A6, c6, e, _⟩ := OwnR.open_ ho7
            injection e
          have hb7 := HS.out.note.chg hC7 hTn
          have y6 := hb7.cell 6
          have f6 := hb7.frozen 6
          simp only [NtC, List.getElem?_toArray, List.getElem?_cons_zero, List.getElem?_cons_succ] at y6
          have hC9 : Chg (fun b => b = g ∨ (Value.slice A k c).ownBlock = some b) wr w7 := by rw [← HT.out]; exact hC7
          have hS8 := HS.out.appA hC9 hcur7 ho7 hob7 (fun x hx => by
            rcases List.mem_append.1 hx with hx | hx
            · exact HS.out.own.ok.args x hx
            · simp only [List.mem_singleton] at hx
              rw [hx]; exact hi)
          have hrel : RelQ w w.heap.size g nb o1 R6 b6 N (.int .i64 ((j + 1 : Nat) : Int)) (w7.setCell ⟨nb, 6, none⟩ (.slice A5 (k + 1) c5)) := ⟨j + 1, R5, b5, la ++ [y], A5, k + 1, c5, B, m, d, by omega, rfl, hS8, by simp; omega, Hlp.out⟩
          have Hrel := Lib.hid hrel
          clear hrel hS8 hC9 hb7 hob7 ho7 hcur7 hC7 k0 cb hcu
          go_wp2_with fail
          go_roundw
          case rel => exact Hrel.out
          case measure => simp [intOf]; omega
    · have hfin := lpI_end hlp hj hgo
      have Hfin := Lib.hid hfin
      have hcs : (bj = true ∧ (j : Int) < z6 ∧ (j : Int) < 20) ∨ ¬ (j : Int) < z6 ∨ ((j : Int) < z6 ∧ ¬ (j : Int) < 20) := by
        by_cases h : j < N
        · refine .inl ⟨?_, HN2.out j h⟩
          cases bj with
          | true => rfl
          | false => exact absurd ⟨h, rfl⟩ hgo
        · obtain rfl : j = N := by omega
          have h3 := HN3.out
          exact .inr (by omega)
      clear hlp hgo hfin
      rcases hcs with ⟨hbj, e1, e2⟩ | e1 | ⟨e1, e2⟩
      all_goals
        try rw [hbj] at cb
        have y0 := hS.note.cell 0
        have y1 := hS.note.cell 1
        have y2 := hS.note.cell 2
        have y3 := hS.note.cell 3
        have y4 := hS.note.cell 4
        have y5 := hS.note.cell 5
        have y6 := hS.note.cell 6
        have y7 := hS.note.cell 7
        have y8 := hS.note.cell 8
        have y9 := hS.note.cell 9
        have y10 := hS.note.cell 10
        simp only [NtC, Nt.zero, List.getElem?_toArray, List.getElem?_cons_zero, List.getElem?_cons_succ] at y0 y1 y2 y3 y4 y5 y6 y7 y8 y9 y10
        go_wp2_with fail
        clear cb y0 y1 y2 y3 y4 y5 y6 y7 y8 y9 y10
        obtain ⟨o, ho⟩ := hS.name
        have hraw : rawQ L = (o, Rj, bj) := by
          rw [ho, Ho1.out]
          unfold rawQ
          rw [Hq1.out]
          show ([0, 1, 3, 4] : List Int).foldl getQ (Nt.ofKind 4, R1, b1) = _
          simp [getQ, getP, Nt.ofKind, Nt.zero, Hq2.out, Hq3.out, Hq4.out, Hq5.out, Hq6.out, HN.out, Hfin.out]
          try rfl
        refine (refPack_any _ _ _ _ _ _ _ _ hS.own.at_).mono ?_
        rintro e w9 ⟨v, rfl, hv, hc9⟩
        rw [← ho] at hS hv ⊢
        have hS9 := hS.non hc9
        have hZ := hS9.res
        have hN := hS9.note
        have hown := hS9.own
        have hC := hS9.chg
        have hwl := hZ.lt
        have cb := hS9.cur.badCell
        have hz1 := hS9.b1
        have hz2 := hS9.b2
        have hz3 := hS9.b3
        have hgl := hS9.cur.lt
        have hnl := hN.lt
        have hrL := Hr.out.non hC
        have hmx : L.length ≤ maxLen := by unfold maxLen; omega
        have hok := hown.ok
        obtain ⟨A2, n2, c2, rfl, hn2, _, _, hr2⟩ := hv.open_
        have q1 := run_string_rds Try.underlying34 Try.underlying5 Try.underlying9 hr2 c2
        have q2 := run_string_rds Try.underlying34 Try.underlying5 Try.underlying9 hrL c0
        clear hS9 hS hc9 hv hrL hr2 ho
        obtain ⟨bX, hbX⟩ : ∃ bX, bj = bX := ⟨_, rfl⟩
        rw [hbX] at hraw cb
        clear hbX
        cases bX with
        | true =>
          have H1 : Hid (rdB L = false) := rfB_no hmx (by rw [hraw]; rfl)
          clear q1 q2 hraw hok
          have z0 := hZ.cell 0
          have z1 := hZ.cell 1
          have z2 := hZ.cell 2
          have z3 := hZ.cell 3
          have z4 := hZ.cell 4
          have z5 := hZ.cell 5
          have z6 := hZ.cell 6
          have z7 := hZ.cell 7
          have z8 := hZ.cell 8
          have z9 := hZ.cell 9
          have z10 := hZ.cell 10
          simp only [NtC, Nt.zero, List.getElem?_toArray, List.getElem?_cons_zero, List.getElem?_cons_succ] at z0 z1 z2 z3 z4 z5 z6 z7 z8 z9 z10
          have f0 := hZ.frozen 0
          have f1 := hZ.frozen 1
          have f2 := hZ.frozen 2
          have f3 := hZ.frozen 3
          have f4 := hZ.frozen 4
          have f5 := hZ.frozen 5
          have f6 := hZ.frozen 6
          have f7 := hZ.frozen 7
          have f8 := hZ.frozen 8
          have f9 := hZ.frozen 9
          have f10 := hZ.frozen 10
          go_wp2_with fail
          clear z0 z1 z2 z3 z4 z5 z6 z7 z8 z9 z10 f0 f1 f2 f3 f4 f5 f6 f7 f8 f9 f10
          have hbE := hZ.put11 (.int .i64 0) (.int .i64 0) (.int .i64 0) (.int .i64 0) (.string ⟨#[]⟩) (.int .i64 0) (.slice none 0 0) (.int .i64 0) (.int .i64 0) (.int .i64 0) (.slice none 0 0)
          have hE := chg11 w9 w.heap.size (.int .i64 0) (.int .i64 0) (.int .i64 0) (.int .i64 0) (.string ⟨#[]⟩) (.int .i64 0) (.slice none 0 0) (.int .i64 0) (.int .i64 0) (.int .i64 0) (.slice none 0 0)
          have r0 := hbE.cell 0
          have r1 := hbE.cell 1
          have r2 := hbE.cell 2
          have r3 := hbE.cell 3
          have r4 := hbE.cell 4
          have r5 := hbE.cell 5
          have r6 := hbE.cell 6
          have r7 := hbE.cell 7
          have r8 := hbE.cell 8
          have r9 := hbE.cell 9
          have r10 := hbE.cell 10
          simp only [List.getElem?_toArray, List.getElem?_cons_zero, List.getElem?_cons_succ] at r0 r1 r2 r3 r4 r5 r6 r7 r8 r9 r10
          have hCE := hC.trans2 hE (fun b e => .inr (by have e : b = w.heap.size := e; omega))
          exact bodyPost_ret (v := .tuple #[.agg #[.int .i64 0, .int .i64 0, .int .i64 0, .int .i64 0, .string ⟨#[]⟩, .int .i64 0, .slice none 0 0, .int .i64 0, .int .i64 0, .int .i64 0, .slice none 0 0], .int .i64 4]) (by simp [results, Try.results18, go_sem, r0, r1, r2, r3, r4, r5, r6, r7, r8, r9, r10]) rfl (ReadPost.zero H1 hCE)
        | false =>
          cases hmay : o.clear.may with
          | false =>
            have H1 : Hid (rdB L = false) := rfB_no hmx (by rw [hraw]; unfold rfB; rw [hmay]; rfl)
            have He : o.packErr = 1 := by unfold Nt.packErr; rw [hmay]; rfl
            rw [He]
            clear He hmay q1 q2 hraw hok
            have z0 := hZ.cell 0
            have z1 := hZ.cell 1
            have z2 := hZ.cell 2
            have z3 := hZ.cell 3
            have z4 := hZ.cell 4
            have z5 := hZ.cell 5
            have z6 := hZ.cell 6
            have z7 := hZ.cell 7
            have z8 := hZ.cell 8
            have z9 := hZ.cell 9
            have z10 := hZ.cell 10
            simp only [NtC, Nt.zero, List.getElem?_toArray, List.getElem?_cons_zero, List.getElem?_cons_succ] at z0 z1 z2 z3 z4 z5 z6 z7 z8 z9 z10
            have f0 := hZ.frozen 0
            have f1 := hZ.frozen 1
            have f2 := hZ.frozen 2
            have f3 := hZ.frozen 3
            have f4 := hZ.frozen 4
            have f5 := hZ.frozen 5
            have f6 := hZ.frozen 6
            have f7 := hZ.frozen 7
            have f8 := hZ.frozen 8
            have f9 := hZ.frozen 9
            have f10 := hZ.frozen 10
            go_wp2_with fail
            clear z0 z1 z2 z3 z4 z5 z6 z7 z8 z9 z10 f0 f1 f2 f3 f4 f5 f6 f7 f8 f9 f10
            have hbE := hZ.put11 (.int .i64 0) (.int .i64 0) (.int .i64 0) (.int .i64 0) (.string ⟨#[]⟩) (.int .i64 0) (.slice none 0 0) (.int .i64 0) (.int .i64 0) (.int .i64 0) (.slice none 0 0)
            have hE := chg11 w9 w.heap.size (.int .i64 0) (.int .i64 0) (.int .i64 0) (.int .i64 0) (.string ⟨#[]⟩) (.int .i64 0) (.slice none 0 0) (.int .i64 0) (.int .i64 0) (.int .i64 0) (.slice none 0 0)
            have r0 := hbE.cell 0
            have r1 := hbE.cell 1
            have r2 := hbE.cell 2
            have r3 := hbE.cell 3
            have r4 := hbE.cell 4
            have r5 := hbE.cell 5
            have r6 := hbE.cell 6
            have r7 := hbE.cell 7
            have r8 := hbE.cell 8
            have r9 := hbE.cell 9
            have r10 := hbE.cell 10
            simp only [List.getElem?_toArray, List.getElem?_cons_zero, List.getElem?_cons_succ] at r0 r1 r2 r3 r4 r5 r6 r7 r8 r9 r10
            have hCE := hC.trans2 hE (fun b e => .inr (by have e : b = w.heap.size := e; omega))
            exact bodyPost_ret (v := .tuple #[.agg #[.int .i64 0, .int .i64 0, .int .i64 0, .int .i64 0, .string ⟨#[]⟩, .int .i64 0, .slice none 0 0, .int .i64 0, .int .i64 0, .int .i64 0, .slice none 0 0], .int .i64 4]) (by simp [results, Try.results18, go_sem, r0, r1, r2, r3, r4, r5, r6, r7, r8, r9, r10]) rfl (ReadPost.zero H1 hCE)
          | true =>
            have He : o.packErr = 0 := by unfold Nt.packErr; rw [hmay]; rfl
            rw [He]
            by_cases hb : o.pack = L
            · have hy := rfB_yes (b := L) (by rw [hraw]; exact hok) (by rw [hraw]; unfold rfB; rw [hmay]; simp [hb])
              rw [hraw] at hy
              have H1 := Lib.hid (show rdB L = true ∧ (readRaw L).1 = o from ⟨hy.1, by have h2 := hy.2; unfold rdN at h2; rw [hy.1, if_pos rfl] at h2; exact h2.symm⟩)
              rw [hb] at q1
              clear He hmay hb hn2 hy hraw hok
              have z0 := hZ.cell 0
              have z1 := hZ.cell 1
              have z2 := hZ.cell 2
              have z3 := hZ.cell 3
              have z4 := hZ.cell 4
              have z5 := hZ.cell 5
              have z6 := hZ.cell 6
              have z7 := hZ.cell 7
              have z8 := hZ.cell 8
              have z9 := hZ.cell 9
              have z10 := hZ.cell 10
              simp only [NtC, Nt.zero, List.getElem?_toArray, List.getElem?_cons_zero, List.getElem?_cons_succ] at z0 z1 z2 z3 z4 z5 z6 z7 z8 z9 z10
              have f0 := hZ.frozen 0
              have f1 := hZ.frozen 1
              have f2 := hZ.frozen 2
              have f3 := hZ.frozen 3
              have f4 := hZ.frozen 4
              have f5 := hZ.frozen 5
              have f6 := hZ.frozen 6
              have f7 := hZ.frozen 7
              have f8 := hZ.frozen 8
              have f9 := hZ.frozen 9
              have f10 := hZ.frozen 10
              have y0 := hN.cell 0
              have y1 := hN.cell 1
              have y2 := hN.cell 2
              have y3 := hN.cell 3
              have y4 := hN.cell 4
              have y5 := hN.cell 5
              have y6 := hN.cell 6
              have y7 := hN.cell 7
              have y8 := hN.cell 8
              have y9 := hN.cell 9
              have y10 := hN.cell 10
              simp only [NtC, Nt.zero, List.getElem?_toArray, List.getElem?_cons_zero, List.getElem?_cons_succ] at y0 y1 y2 y3 y4 y5 y6 y7 y8 y9 y10
              go_wp2_with fail
              clear z0 z1 z2 z3 z4 z5 z6 z7 z8 z9 z10 f0 f1 f2 f3 f4 f5 f6 f7 f8 f9 f10 y0 y1 y2 y3 y4 y5 y6 y7 y8 y9 y10
              have hbE := hZ.put11 (.int .i64 o.kind) (.int .i64 o.node) (.int .i64 o.life) (.int .i64 o.epoch) (.string o.id) (.int .i64 o.fn) (.slice A k c) (.int .i64 o.err) (.int .i64 o.val) (.int .i64 o.vep) (.slice B m d)
              have hE := chg11 w9 w.heap.size (.int .i64 o.kind) (.int .i64 o.node) (.int .i64 o.life) (.int .i64 o.epoch) (.string o.id) (.int .i64 o.fn) (.slice A k c) (.int .i64 o.err) (.int .i64 o.val) (.int .i64 o.vep) (.slice B m d)
              have r0 := hbE.cell 0
              have r1 := hbE.cell 1
              have r2 := hbE.cell 2
              have r3 := hbE.cell 3
              have r4 := hbE.cell 4
              have r5 := hbE.cell 5
              have r6 := hbE.cell 6
              have r7 := hbE.cell 7
              have r8 := hbE.cell 8
              have r9 := hbE.cell 9
              have r10 := hbE.cell 10
              simp only [List.getElem?_toArray, List.getElem?_cons_zero, List.getElem?_cons_succ] at r0 r1 r2 r3 r4 r5 r6 r7 r8 r9 r10
              have hCE := hC.trans2 hE (fun b e => .inr (by have e : b = w.heap.size := e; omega))
              have hown9 := hown.side hZ hE
              exact bodyPost_ret (v := .tuple #[.agg #[.int .i64 o.kind, .int .i64 o.node, .int .i64 o.life, .int .i64 o.epoch, .string o.id, .int .i64 o.fn, .slice A k c, .int .i64 o.err, .int .i64 o.val, .int .i64 o.vep, .slice B m d], .int .i64 0]) (by simp [results, Try.results18, go_sem, r0, r1, r2, r3, r4, r5, r6, r7, r8, r9, r10]) rfl (ReadPost.one H1.out (hown9.base (by omega)) hCE)
            · have H1 : Hid (rdB L = false) := rfB_no hmx (by rw [hraw]; unfold rfB; rw [hmay]; simp [hb])
              have hne : (o.pack == L) = false := beq_eq_false_iff_ne.2 hb
              clear He hmay hb hn2 hraw hok
              have z0 := hZ.cell 0
              have z1 := hZ.cell 1
              have z2 := hZ.cell 2
              have z3 := hZ.cell 3
              have z4 := hZ.cell 4
              have z5 := hZ.cell 5
              have z6 := hZ.cell 6
              have z7 := hZ.cell 7
              have z8 := hZ.cell 8
              have z9 := hZ.cell 9
              have z10 := hZ.cell 10
              simp only [NtC, Nt.zero, List.getElem?_toArray, List.getElem?_cons_zero, List.getElem?_cons_succ] at z0 z1 z2 z3 z4 z5 z6 z7 z8 z9 z10
              have f0 := hZ.frozen 0
              have f1 := hZ.frozen 1
              have f2 := hZ.frozen 2
              have f3 := hZ.frozen 3
              have f4 := hZ.frozen 4
              have f5 := hZ.frozen 5
              have f6 := hZ.frozen 6
              have f7 := hZ.frozen 7
              have f8 := hZ.frozen 8
              have f9 := hZ.frozen 9
              have f10 := hZ.frozen 10
              go_wp2_with fail
              clear z0 z1 z2 z3 z4 z5 z6 z7 z8 z9 z10 f0 f1 f2 f3 f4 f5 f6 f7 f8 f9 f10
              have hbE := hZ.put11 (.int .i64 0) (.int .i64 0) (.int .i64 0) (.int .i64 0) (.string ⟨#[]⟩) (.int .i64 0) (.slice none 0 0) (.int .i64 0) (.int .i64 0) (.int .i64 0) (.slice none 0 0)
              have hE := chg11 w9 w.heap.size (.int .i64 0) (.int .i64 0) (.int .i64 0) (.int .i64 0) (.string ⟨#[]⟩) (.int .i64 0) (.slice none 0 0) (.int .i64 0) (.int .i64 0) (.int .i64 0) (.slice none 0 0)
              have r0 := hbE.cell 0
              have r1 := hbE.cell 1
              have r2 := hbE.cell 2
              have r3 := hbE.cell 3
              have r4 := hbE.cell 4
              have r5 := hbE.cell 5
              have r6 := hbE.cell 6
              have r7 := hbE.cell 7
              have r8 := hbE.cell 8
              have r9 := hbE.cell 9
              have r10 := hbE.cell 10
              simp only [List.getElem?_toArray, List.getElem?_cons_zero, List.getElem?_cons_succ] at r0 r1 r2 r3 r4 r5 r6 r7 r8 r9 r10
              have hCE := hC.trans2 hE (fun b e => .inr (by have e : b = w.heap.size := e; omega))
              exact bodyPost_ret (v := .tuple #[.agg #[.int .i64 0, .int .i64 0, .int .i64 0, .int .i64 0, .string ⟨#[]⟩, .int .i64 0, .slice none 0 0, .int .i64 0, .int .i64 0, .int .i64 0, .slice none 0 0], .int .i64 4]) (by simp [results, Try.results18, go_sem, r0, r1, r2, r3, r4, r5, r6, r7, r8, r9, r10]) rfl (ReadPost.zero H1 hCE)
end Go.Proofs.Ytclpmadecibofaa
