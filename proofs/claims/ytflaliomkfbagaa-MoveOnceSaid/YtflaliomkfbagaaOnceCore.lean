/-
  gleanerlaw21.MoveOnce: the walk.
-/
import Derived.Test.YtflaliomkfbagaaOnceStart
namespace Go.Proofs.Ytflaliomkfbagaa
open Go.RowKit
set_option linter.unusedVariables false
set_option linter.unusedSimpArgs false

def trC (x : Int × Int × Int) : List Value := [.int .i64 x.1, .int .i64 x.2.1, .int .i64 x.2.2]
theorem trC_len (x : Int × Int × Int) : (trC x).length = 3 := rfl
def ownS (k : Nat) : GvS := ⟨0, hasL ((List.range k).map id1), fun _ => none, 0⟩
theorem own_next {k : Nat} (hk : k < 16) : ownN (ownS k) [id1 k] = (ownS (k + 1), 1) := by
  have hno : hasL ((List.range k).map id1) (id1 k) = false := by
    rw [← Bool.not_eq_true, hasL_true, List.mem_map]
    rintro ⟨j, h1, h2⟩
    rw [List.mem_range] at h1
    have := id1_inj (by omega) (by omega) h2
    omega
  rw [own_one (s := ownS k) (id1_vid hk) rfl hno]
  have e : (fun c => decide (c = id1 k) || (ownS k).has c) = (ownS (k + 1)).has := by
    funext c
    show (decide (c = id1 k) || hasL ((List.range k).map id1) c) = hasL ((List.range (k + 1)).map id1) c
    rw [List.range_succ, List.map_append]
    show _ = hasL (_ ++ [id1 k]) c
    rw [hasL_snoc, Bool.or_comm]
  rw [e]
  rfl
theorem tk0_step (room : Int) (k : Nat) : (List.range (k + 1)).map (tk0 room) = (List.range k).map (tk0 room) ++ [tk0 room k] := by rw [List.range_succ, List.map_append]; rfl
theorem cnt_step {t : List TkS} {m : Nat} {x : TkS} (h : t[m]? = some x) (a : ByteArray) : cntT (t.take (m + 1)) a = cntT (t.take m) a + if x.has a then 1 else 0 := by
  unfold cntT
  rw [List.take_add_one, h, List.countP_append]
  show _ + List.countP _ [x] = _
  rw [List.countP_cons, List.countP_nil, Nat.zero_add]
theorem again_form (s : GvS) (a : ByteArray) : ∃ cs : Array Value, againV s a = .tuple #[.agg cs, .bool (s.off a).isSome] ∧ cs.size = 11 ∧ cs.all (·.oneCell') = true := by
  unfold againV
  cases s.off a with
  | none => exact ⟨NtC Nt.zero none 0 0 none 0 0, rfl, rfl, by unfold NtC; simp [Value.oneCell']⟩
  | some o => exact ⟨NtC (offN o a) none 0 0 none 0 0, rfl, rfl, by unfold NtC; simp [Value.oneCell']⟩

def NT8 (sz base : Nat) (tv : Value) (n : Nat) (xs : List Value) (x : TkS) (v : Value) (wx : World) : Prop := OwnR rkTk wx base tv n xs ∧ ∃ (p : Tp) (F : Nat → Prop), v = tpV p ∧ p.ns = 0 ∧ p.nt = 0 ∧ Tk wx F p.t p.sm p.tm p.ns p.nt x ∧ ∀ b, F b → sz ≤ b
def NT10 (sz base : Nat) (tv : Value) (n : Nat) (xs : List Value) (x : TkS) (v : Value) (wx : World) : Prop := ∃ (p : Tp) (F : Nat → Prop), p.ns = 0 ∧ p.nt = 0 ∧ Tk wx F p.t p.sm p.tm p.ns p.nt x ∧ (∀ b, F b → sz ≤ b) ∧ OwnR rkTk wx base v (n + 1) (xs ++ [tpV p]) ∧ ∀ b, v.ownBlock = some b → ¬ F b ∧ (tv.ownBlock = some b ∨ sz ≤ b)
theorem NT8.alloc {sz base n : Nat} {tv v : Value} {xs : List Value} {x : TkS} {wx : World} (h : NT8 sz base tv n xs x v wx) (ob : Obj) : NT8 sz base tv n xs x v (wx.alloc ob) := by
  obtain ⟨h1, p, F, h2, h3, h4, h5, h6⟩ := h
  exact ⟨h1.alloc ob, p, F, h2, h3, h4, h5.non ((Chg.refl _ _).alloc ob), h6⟩
theorem NT10.alloc {sz base n : Nat} {tv v : Value} {xs : List Value} {x : TkS} {wx : World} (h : NT10 sz base tv n xs x v wx) (ob : Obj) : NT10 sz base tv n xs x v (wx.alloc ob) := by
  obtain ⟨p, F, h3, h4, h5, h6, h7, h8⟩ := h
  exact ⟨p, F, h3, h4, h5.non ((Chg.refl _ _).alloc ob), h6, h7.alloc ob, h8⟩

set_option maxRecDepth 100000 in
set_option maxHeartbeats 2000000 in
theorem moveOnce_much (w : World) (tasks takers room : Int) (A : Option Addr) (n c : Nat) (h : tasks < 1 ∨ (1 ≤ tasks ∧ 16 < tasks) ∨ (1 ≤ tasks ∧ tasks ≤ 16 ∧ takers < 1) ∨ (1 ≤ tasks ∧ tasks ≤ 16 ∧ 1 ≤ takers ∧ 10 < takers) ∨ (1 ≤ tasks ∧ tasks ≤ 16 ∧ 1 ≤ takers ∧ takers ≤ 10 ∧ 300 < n)) :
    Calls Try.prog 3 #[.int .i64 tasks, .int .i64 takers, .int .i64 room, .slice A n c] w fun e w2 => e = .returned (.bool true) ∧ Chg Non w w2 := by
  rcases h with h | ⟨h, h2⟩ | ⟨h, h2, h3⟩ | ⟨h, h2, h3, h4⟩ | ⟨h, h2, h3, h4, h5⟩
  all_goals
    go_enter Try.func3, Try.ntmps3
    go_wp2_with fail
    refine (mv_alive w).mono ?_
    rintro e w2 ⟨rfl, hc2⟩
    go_wp2_with fail
    go_ret
    exact ⟨rfl, hc2⟩

set_option maxRecDepth 100000 in
set_option maxHeartbeats 32000000 in
theorem moveOnce_core (w : World) (T N : Nat) (room : Int) (A : Option Addr) (n c : Nat) (l : List (Int × Int × Int)) (hr : Rds w 3 A n (l.flatMap trC)) (h1 : 1 ≤ T) (h2 : T ≤ 16) (h3 : 1 ≤ N) (h4 : N ≤ 10) (hn : n ≤ 300) :
    Calls Try.prog 3 #[.int .i64 (T : Int), .int .i64 (N : Int), .int .i64 room, .slice A n c] w fun e w2 => e = .returned (.bool true) ∧ Chg Non w w2 := by
  have Hr := Lib.hid hr
  have qc := @conv1
  clear hr
  go_enter Try.func3, Try.ntmps3
  go_wp2_with fail
  refine (mv_alive w).mono ?_
  rintro e wa ⟨rfl, hca⟩
  go_wp2_with fail
  refine (newGiver_any wa 0).mono ?_
  rintro e w1 ⟨g, sm, om, F, rfl, hG, hF, hC⟩
  replace hF : ∀ b, F b → w.heap.size ≤ b := fun b hb => Nat.le_trans hca.size (hF b hb)
  replace hC := hca.non hC
  have hFl : ∀ b, F b → b < w1.heap.size := fun b hb => hG.lt b hb
  have hs1 := hC.size
  clear hca
  go_wp2_with fail
  go_loopw [11] (fun i wr => ∃ (k ns : Nat) (A5 : Option Addr) (c5 : Nat), k ≤ T ∧ i = .int .i64 k ∧ ns ≤ k ∧ Blk wr w1.heap.size 32 #[.pointer (some ⟨g, 0, none⟩), .slice none 0 0, .slice none 0 0, .slice none 0 0, .slice A5 k c5] ∧ OwnR rkI wr (w1.heap.size + 1) (.slice A5 k c5) k (sv ((List.range k).map id1)) ∧ Gv wr F g sm om ns 0 (ownS k) ∧ Chg Non w wr) (fun i _ => T - (intOf i).toNat)
  case atStart => exact ⟨0, 0, none, 0, Nat.zero_le _, rfl, Nat.le_refl _, Blk.new _ _ _, OwnR.nil _ _ _, hG.non ((Chg.refl _ _).alloc _), hC.alloc _⟩
  case round =>
    clear hG hC
    obtain ⟨k, ns, A5, c5, hk, rfl, hns, hb, hown, hG, hC⟩ := hrel
    by_cases hlt : k < T
    · have qw := fun w => qc (show k < 256 by omega) w
      have hst : (List.range (k + 1)).map id1 = (List.range k).map id1 ++ [id1 k] := by rw [List.range_succ, List.map_append]; rfl
      have hgo := own_next (show k < 16 by omega)
      have hsz : (id1 k).size ≤ 1000 := by show 1 ≤ 1000; decide
      generalize hnm : id1 k = nm at qw hst hgo hsz
      have qww := qw wr
      obtain ⟨w3, hw3⟩ : ∃ w3, wr.alloc (.cells #[.int .u8 (k : Int)] 5) = w3 := ⟨_, rfl⟩
      rw [hw3] at qww
      have hc3 : Chg Non wr w3 := hw3 ▸ (Chg.refl _ _).alloc _
      have hz3 : w1.heap.size + 1 ≤ w3.heap.size := by have := hb.lt; have := hc3.size; omega
      have hb3 := hb.non hc3
      have hown3 := hown.non hc3
      have hoq : ∀ b, (Value.slice A5 k c5).ownBlock = some b → w1.heap.size + 1 ≤ b := fun b hb => (hown3.lt hb).1
      have c4 : w3.cell? ⟨w1.heap.size, 4, none⟩ = some (.slice A5 k c5) := hb3.cell 4
      have ql := hb3.lt
      have Hst := Lib.hid hst
      have Hgo := Lib.hid hgo
      have HG := Lib.hid (hG.non hc3)
      have HC := Lib.hid (hC.non hc3)
      have Hb3 := Lib.hid hb3
      generalize (List.range k).map id1 = W at hown3 Hst
      clear qw hst hgo hnm hG hC hown hb hb3 hc3
      go_wp2_with (at_builtin; refine appR1s (K := rkI) rfl (.tmp 62) (.tmp 64) rfl hown3 rfl (cs := #[.string nm]) rfl rfl (svI_one [nm]) ?_ ?_ ?_; (next => omega); (next => exact hz3); intro A9 c9 w9 h9 hc9 hv9; have hb9 := Hb3.out.chg hc9 (fun e => by have := hoq _ e; omega); have c49 : w9.cell? ⟨w1.heap.size, 4, none⟩ = some (.slice A5 k c5) := hb9.cell 4; have f49 := hb9.frozen 4; have ql9 := hb9.lt; obtain ⟨w10, hw10⟩ : ∃ w10, w9.setCell ⟨w1.heap.size, 4, none⟩ (.slice A9 (k + 1) c9) = w10 := ⟨_, rfl⟩; have hS10 : Chg (fun b => b = w1.heap.size) w9 w10 := hw10 ▸ (Chg.refl _ _).set1 4 _; have hb10 := hb9.put 4 (.slice A9 (k + 1) c9); simp only [List.setIfInBounds_toArray, List.set_cons_succ, List.set_cons_zero] at hb10; rw [hw10] at hb10; have c010 : w10.cell? ⟨w1.heap.size, 0, none⟩ = some (.pointer (some ⟨g, 0, none⟩)) := hb10.cell 0; have ql10 := hb10.lt)
      obtain ⟨w11, hw11⟩ : ∃ w11, w10.alloc (.cells #[.string nm] 33) = w11 := ⟨_, rfl⟩
      rw [hw11]
      have hc11 : Chg Non w10 w11 := hw11 ▸ (Chg.refl _ _).alloc _
      have hr11 : Rds w11 1 (some ⟨w10.heap.size, 0, none⟩) 1 (sv [nm]) := hw11 ▸ Rds.one w10 _ _
      have hz9 := hc9.size
      have hz10 := hS10.size
      have hG11 := (((HG.out.chg hc9 (fun b hb e => by have := hoq _ e; have := hFl b hb; omega)).chg hS10 (fun b hb e => by have e : b = w1.heap.size := e; have := hFl b hb; omega)).non hc11)
      have hC11 : Chg Non w w11 := ((HC.out.trans2 hc9 (fun b e => .inr (by have := hoq _ e; omega))).trans2 hS10 (fun b e => .inr (by have e : b = w1.heap.size := e; omega))).non hc11
      have hown11 : OwnR rkI w11 (w1.heap.size + 1) (.slice A9 (k + 1) c9) (k + 1) (sv ((List.range (k + 1)).map id1)) := by
        rw [Hst.out, show sv (W ++ [nm]) = sv W ++ (#[.string nm] : Array Value).toList by simp [sv]]
        exact (h9.chg hS10 (fun b hb e => by have := (h9.lt hb).1; have e : b = w1.heap.size := e; omega)).non hc11
      have hb11 := hb10.non hc11
      have hOw := gvOwn_any w11 F g sm om ns 0 (ownS k) hG11 (some ⟨w10.heap.size, 0, none⟩) 1 1 [nm] hr11 (fun ad e _ h => by obtain rfl := Option.some.inj e; have h5 : w10.heap.size < w1.heap.size := hFl _ h; omega) (by omega) (by omega) (by intro a ha; simp at ha; subst ha; omega)
      rw [Hgo.out] at hOw
      clear hw11 hr11 hG11 hown3 h9 hc9 hS10 hb10 hb9 c010 c49 f49 ql9 ql10 hw3 hw10 qww c4 ql hc11
      refine hOw.mono ?_
      clear hOw
      rintro e w12 ⟨rfl, ns12, hns12, hG12, hc12⟩
      go_wp2_with fail
      go_roundw
      case rel => exact ⟨k + 1, ns12, A9, c9, by omega, by go_num, by omega, hb11.chg hc12 (fun e => by have := hFl _ e; omega), hown11.chg hc12 (fun b hb e => by have := (hown11.lt hb).1; have := hFl b e; omega), hG12, hC11.trans2 hc12 (fun b e => .inr (hF b e))⟩
      case measure => simp [intOf]; omega
    · obtain rfl : T = k := by omega
      have k0 := W0.start (base := w.heap.size) hb hG (fun b e => ⟨hF b e, hFl b e⟩) hs1 hown
      have hmm := @run_makeMap Try.prog
      go_wp2_with fail
      go_loopw [13] (fun i wr => ∃ (k : Nat) (col : Nat → Nat) (h : Hp), k ≤ N ∧ i = .int .i64 k ∧ h.q = w1.heap.size ∧ h.tp.length = k ∧ W0 wr w.heap.size col h (ownS T) ((List.range k).map (tk0 room)) T ∧ Bd h 16 ∧ Chg Non w wr) (fun i _ => N - (intOf i).toNat)
      case atStart => exact ⟨0, _, _, Nat.zero_le _, rfl, rfl, rfl, k0, ⟨by show ns ≤ 16; omega, Nat.zero_le _, Nat.zero_le _, fun j p e => nomatch e⟩, hC⟩
      case round =>
        clear k0 hb hown hG hC hns hk hlt
        obtain ⟨k, col, h, hk, rfl, hq, htp, k0, hB, hC⟩ := hrel
        by_cases hlt : k < N
        · obtain ⟨bs, hbs⟩ : ∃ bs, w.heap.size = bs := ⟨_, rfl⟩
          rw [hbs] at k0
          have hcq : ∀ b, (Value.slice h.At h.tp.length h.ct).ownBlock = some b → b ≠ w1.heap.size := fun b hb e => by have := k0.ct b hb; rw [e, ← hq, k0.cq] at this; omega
          have hbq := k0.hb
          rw [hq] at hbq
          have q1 : ∀ wx, Chg (fun b => (Value.slice h.At h.tp.length h.ct).ownBlock = some b) wr wx → wx.cell? ⟨w1.heap.size, 1, none⟩ = some (.slice h.At h.tp.length h.ct) := fun wx hc => hc.cell (hbq.cell 1) (fun e => hcq _ e rfl)
          have ql := hbq.lt
          have hwr : IntKind.i64.wrap ((k : Int) + 1) = (k : Int) + 1 := by rw [IntKind.wrap_i64] <;> omega
          have hot := k0.ot
          have hTl : ∀ b, (fun b => (Value.slice h.At h.tp.length h.ct).ownBlock = some b) b → b < wr.heap.size := fun b e => (hot.lt e).2
          have hbase : bs ≤ wr.heap.size := hbs ▸ hC.size
          have K0 := Lib.hid k0
          have Hbq := Lib.hid hbq
          have Hq := Lib.hid hq
          have Htp := Lib.hid htp
          have hlen : h.tp.length ≤ 10 := by omega
          clear k0 hbq hq htp
          go_wp2_with fail
          refine st_region_tail 8 13 (fun b => (Value.slice h.At h.tp.length h.ct).ownBlock = some b) [8, 10] [9] (fun i _ v wx => if i = 8 then NT8 wr.heap.size bs (.slice h.At h.tp.length h.ct) h.tp.length (h.tp.map tpV) (tk0 room k) v wx else NT10 wr.heap.size bs (.slice h.At h.tp.length h.ct) h.tp.length (h.tp.map tpV) (tk0 room k) v wx) (fun _ _ _ _ => True) (fun i _ v => i = 8 → ∃ t, v = .pointer (some ⟨t, 0, none⟩)) (fun wx => OwnR rkTk wx bs (.slice h.At h.tp.length h.ct) h.tp.length (h.tp.map tpV)) (by kernel_rfl) (by kernel_rfl) (by kernel_rfl) hTl hot (fun _ _ h => h.alloc _) ?_
          repeat (first | (refine st_pass (by rfl) ?_; simp only [Act.put, List.setIfInBounds_toArray, List.set_cons_succ, List.set_cons_zero]) | (refine st_plain (fun b => (Value.slice h.At h.tp.length h.ct).ownBlock = some b) (wr) rfl rfl (f := ?_) (by rfl) rfl rfl (fun w hC hG => ?_) ?_; rotate_left; (clear hG; first | (go_simp; done) | (go_simp; with_reducible rfl) | (simp [*, go_sem, ↓IntWalk.iteOmega]; done) | (simp [*, go_sem, ↓IntWalk.iteOmega]; with_reducible rfl)); simp only [Act.put, List.setIfInBounds_toArray, List.set_cons_succ, List.set_cons_zero]))
          refine st_major (fun b => (Value.slice h.At h.tp.length h.ct).ownBlock = some b) (wr) rfl rfl (by rfl) rfl (⟨.pointer (some ⟨0, 0, none⟩), fun _ => ⟨0, rfl⟩⟩) (fun _ _ _ _ _ _ => trivial) (fun v wx ob h => NT8.alloc h ob) (fun w hC hG hS => settle_of (r2 := ?_) ?_ ?_) ?_
          rotate_left
          (first | (go_simp; done) | (go_simp; rfl))
          · refine settle_enter ((newTaker_max w ((k : Int) + 1) room).mono ?_)
            rintro e w6 ⟨t, sm2, tm2, F2, rfl, hT6, hF6, hc6⟩
            exact ⟨_, rfl, fun _ => ⟨t, rfl⟩, hc6.of_non, (show NT8 wr.heap.size bs (.slice h.At h.tp.length h.ct) h.tp.length (h.tp.map tpV) (tk0 room k) _ w6 from ⟨OwnR.non hS hc6, ⟨t, sm2, tm2, 0, 0⟩, F2, rfl, rfl, rfl, hT6, fun b hb => Nat.le_trans hC.size (hF6 b hb)⟩), trivial⟩
          rintro v8 hv8
          obtain ⟨t, rfl⟩ := hv8 rfl
          simp only [Act.put, List.setIfInBounds_toArray, List.set_cons_succ, List.set_cons_zero]
          refine st_minor (fun b => (Value.slice h.At h.tp.length h.ct).ownBlock = some b) wr rfl rfl (ob := .cells #[.pointer (some ⟨t, 0, none⟩)] 36) (kd := some (1, 1)) (by rfl) rfl rfl (fun w hC hG => by clear hG; go_simp; rfl) (fun g2 => ?_)
          simp only [Act.put, List.setIfInBounds_toArray, List.set_cons_succ, List.set_cons_zero]
          refine st_major (fun b => (Value.slice h.At h.tp.length h.ct).ownBlock = some b) (wr) rfl rfl (by rfl) rfl (⟨.bool false, fun e => absurd e (by decide)⟩) (fun _ _ _ _ _ _ => trivial) (fun v wx ob h => NT10.alloc h ob) (fun w hC hG hS => ?_) ?_
          · have hS2 : NT8 wr.heap.size bs (.slice h.At h.tp.length h.ct) h.tp.length (h.tp.map tpV) (tk0 room k) (.pointer (some ⟨t, 0, none⟩)) _ := hS
            obtain ⟨ho, p, F2, hv, e1, e2, hT, hF2⟩ := hS2
            have hB := Rds.blockN (m := 1) (size := 1) (show Blk _ g2 36 #[.pointer (some ⟨t, 0, none⟩)] from (hG 9 rfl).2) rfl
            refine settle_appR (K := rkTk) (.tmp 84) (.tmp 89) rfl ho rfl hB rfl (by intro u hu; simp at hu; subst hu; rfl) (by omega) (Nat.le_trans hbase hC.size) ?_
            intro v2 w6 g2' g3' g4'
            refine ⟨fun e => absurd e (by decide), g3', (show NT10 wr.heap.size bs (.slice h.At h.tp.length h.ct) h.tp.length (h.tp.map tpV) (tk0 room k) v2 w6 from ⟨p, F2, e1, e2, hT.chg g3' (fun b hb e => by have := hTl b e; have := hF2 b hb; omega), hF2, by rw [← hv]; exact g2', fun b hb => ?_⟩), trivial⟩
            rcases g4' with e4 | e4
            · rw [e4] at hb
              exact ⟨fun e => by have := hTl b hb; have := hF2 b e; omega, .inl hb⟩
            · rw [e4] at hb
              obtain rfl := Option.some.inj hb
              exact ⟨fun e => by have := hT.lt _ e; omega, .inr hC.size⟩
          · rintro v4 _
            simp only [Act.put, List.setIfInBounds_toArray, List.set_cons_succ, List.set_cons_zero]
            repeat (first | (refine st_pass (by rfl) ?_; simp only [Act.put, List.setIfInBounds_toArray, List.set_cons_succ, List.set_cons_zero]) | (refine st_plain (fun b => (Value.slice h.At h.tp.length h.ct).ownBlock = some b) (wr) rfl rfl (f := ?_) (by rfl) rfl rfl (fun w hC hG => ?_) ?_; rotate_left; (clear hG; first | (go_simp; done) | (go_simp; with_reducible rfl) | (simp [*, go_sem, ↓IntWalk.iteOmega]; done) | (simp [*, go_sem, ↓IntWalk.iteOmega]; with_reducible rfl)); simp only [Act.put, List.setIfInBounds_toArray, List.set_cons_succ, List.set_cons_zero]))
            refine st_tail (fun b => (Value.slice h.At h.tp.length h.ct).ownBlock = some b) wr rfl rfl rfl (fun w7 hC7 hS7 _ => ?_)
            simp only [List.drop_succ_cons, List.drop_zero]
            have hS8 : NT10 wr.heap.size bs (.slice h.At h.tp.length h.ct) h.tp.length (h.tp.map tpV) (tk0 room k) v4 w7 := hS7
            obtain ⟨p, F2, e1, e2, hT7, hF7, ho7, hf7⟩ := hS8
            obtain ⟨A4, c4, rfl, _⟩ := ho7.open_
            have hb7 := Hbq.out.chg hC7 (fun e => hcq _ e rfl)
            have c17 : w7.cell? ⟨w1.heap.size, 1, none⟩ = some (.slice h.At h.tp.length h.ct) := hb7.cell 1
            have f17 := hb7.frozen 1
            have ql7 := hb7.lt
            obtain ⟨w8, hw8⟩ : ∃ w8, w7.setCell ⟨w1.heap.size, 1, none⟩ (.slice A4 (h.tp.length + 1) c4) = w8 := ⟨_, rfl⟩
            have hS1 : Chg (fun b => b = w1.heap.size) w7 w8 := hw8 ▸ (Chg.refl _ _).set1 1 _
            have hb8 := hb7.put 1 (.slice A4 (h.tp.length + 1) c4)
            simp only [List.setIfInBounds_toArray, List.set_cons_succ, List.set_cons_zero] at hb8
            rw [hw8, ← Hq.out] at hb8
            have hq8 : ∀ b, (Value.slice A4 (h.tp.length + 1) c4).ownBlock = some b → b ≠ w1.heap.size := fun b hb e => ho7.apart hb7 (by decide) (e ▸ hb)
            have hall : Chg (fun b => (Value.slice h.At h.tp.length h.ct).ownBlock = some b ∨ b = w1.heap.size) wr w8 := (hC7.mono fun b e => .inl e).trans2 hS1 (fun b e => .inl (.inr e))
            have hz8 := hS1.size
            have hz7 := hC7.size
            have hql2 : w1.heap.size < wr.heap.size := ql
            have hk8 := K0.out.add hall (fun b e => by
              rcases e with e | e
              · exact .inr (K0.out.ct b e)
              · exact .inl (by rw [e, ← Hq.out]; exact K0.out.cq)) (p := p) hb8 (by rw [List.map_append]; exact ho7.chg hS1 (fun b hb e => hq8 b hb e)) (fun b hb => ⟨(hf7 b hb).1, (hf7 b hb).2.imp (K0.out.ct b) id⟩) (hT7.chg hS1 (fun b hb e => by have := hF7 b hb; have e : b = w1.heap.size := e; omega)) hF7
            rw [← tk0_step] at hk8
            have hC8 : Chg Non w w8 := hC.trans2 hall (fun b e => .inr (by
              rcases e with e | e
              · have := (K0.out.ot.lt e).1; omega
              · omega))
            have Hk8 := Lib.hid hk8
            clear q1 hb7 hb8 ho7 hT7 hS1 hall hk8 hC7 hS7 hf7 hF7 hTl hot hcq
            go_wp2_with fail
            go_roundw
            case rel => exact ⟨k + 1, _, { h with At := A4, ct := c4, tp := h.tp ++ [p] }, by omega, by go_num, Hq.out, by show (h.tp ++ [p]).length = _; rw [List.length_append, Htp.out]; rfl, by rw [hbs]; exact Hk8.out, ⟨hB.ns, hB.no, hB.ln, fun i p2 e => by
              rcases get_snoc.1 e with e | ⟨_, e⟩
              · exact hB.tp i p2 e
              · rw [← e, e1, e2]; omega⟩, hC8⟩
            case measure => simp [intOf]; omega
        · obtain rfl : N = k := by omega
          have kF := Lib.hid k0.full
          have hCm := Lib.hid (hC.alloc (.map #[] 0))
          obtain ⟨lm, hlm⟩ : ∃ lm, wr.heap.size = lm := ⟨_, rfl⟩
          have hB' : Bd { h with lm := wr.heap.size, ln := 0, Aw := none, cw := 0, Ao := none, co := 0 } (16 + 0) := ⟨hB.ns, hB.no, Nat.zero_le _, hB.tp⟩
          have HB' := Lib.hid hB'
          have Hq := Lib.hid hq
          clear k0 hC hB hB' hq htp
          go_wp2_with fail
          go_loopw [15] (fun i wr => ∃ (k : Nat) (col : Nat → Nat) (h : Hp) (s : OSt), k ≤ n ∧ i = .int .i64 k ∧ h.q = w1.heap.size ∧ h.lm = lm ∧ Wd wr w.heap.size col h s T ∧ OInv T N s ∧ s.L.length ≤ k ∧ Bd h (16 + k) ∧ Chg Non w wr) (fun i _ => n - (intOf i).toNat)
          case atStart => exact ⟨0, _, { h with lm := wr.heap.size, ln := 0, Aw := none, cw := 0, Ao := none, co := 0 }, _, Nat.zero_le _, rfl, Hq.out, hlm, kF.out, OInv.start (room := room), Nat.zero_le _, HB'.out, hCm.out⟩
          case round =>
            clear kF hCm HB' Hq h col
            obtain ⟨k, col, h, s, hk, rfl, hq, hlm', kW, hI, hLk, hB, hC⟩ := hrel
            by_cases hlt : k < n
            · obtain ⟨ad, x, rfl, hx, x0, x1⟩ := Hr.out.getN trC_len (by decide) hlt
              have b0 : wr.cell? (ad.add (k * 3)) = some (.int .i64 x.1) := hC.cell (x0 _ rfl) id
              have b1 : wr.cell? ⟨(ad.add (k * 3)).block, (ad.add (k * 3)).off + 1, none⟩ = some (.int .i64 x.2.1) := hC.cell (x1 0 _ rfl) id
              have b2 : wr.cell? ⟨(ad.add (k * 3)).block, (ad.add (k * 3)).off + 2, none⟩ = some (.int .i64 x.2.2) := hC.cell (x1 1 _ rfl) id
              have bl := World.block_lt_of_cell? wr _ b0
              have hbq := kW.hb
              rw [hq] at hbq
              have q2 : wr.cell? ⟨w1.heap.size, 2, none⟩ = some (.slice h.Aw s.way.length h.cw) := hbq.cell 2
              have ql := hbq.lt
              clear hx x0 x1 hbq
              by_cases hw : s.way.length ≤ 1000
              · have hTn := turn_any wr w.heap.size col h s T N (16 + k) kW hI h2 h1 h4 h3 (by omega) hB (by omega) hw x.1 x.2.1 x.2.2
                rw [hq, hlm'] at hTn
                have KW := Lib.hid kW
                have Hq := Lib.hid hq
                have Hlm' := Lib.hid hlm'
                have HI := Lib.hid hI
                clear kW hq hlm' hI hB
                go_wp2_with fail
                refine hTn.mono ?_
                clear hTn b0 b1 b2 bl q2 ql
                rintro e w5 hp
                unfold TurnPost at hp
                obtain ⟨rfl, col2, h2', s2, kW2, hI2, hL2, hB2, hq2, hlm2, hc5, _⟩ := hp
                have hC5 : Chg Non w w5 := hC.trans2 hc5 (fun b e => .inr (KW.out.lt b e).1)
                have Hq2 : Hid (h2'.q = w1.heap.size) := hq2.trans Hq.out
                have Hlm2 : Hid (h2'.lm = lm) := hlm2.trans Hlm'.out
                have HI2 := Lib.hid hI2
                have HB2 := Lib.hid hB2
                have KW2 := Lib.hid kW2
                have HC5 := Lib.hid hC5
                clear kW2 hI2 hB2 hq2 hlm2 hc5 hC5 hC KW Hq Hlm' HI hw
                go_wp2_with fail
                go_loopw [16] (fun i wr => ∃ k4 : Nat, k4 ≤ T ∧ i = .int .i64 k4 ∧ Wd wr w.heap.size col2 h2' s2 T ∧ Chg Non w wr) (fun i _ => T - (intOf i).toNat)
                case atStart => exact ⟨0, Nat.zero_le _, rfl, KW2.out, HC5.out⟩
                case round =>
                  clear KW2 HC5
                  obtain ⟨k4, hk4', rfl, k5, hC⟩ := hrel
                  by_cases hk4 : k4 < T
                  · obtain ⟨nm, hnm⟩ : ∃ nm, id1 k4 = nm := ⟨_, rfl⟩
                    have hsz := id_small (id1_vid (show k4 < 16 by omega))
                    have honce := HI2.out.once hk4
                    have hnx2 : ((List.range T).map id1)[k4]? = some nm := by rw [List.getElem?_map, List.getElem?_range hk4, ← hnm]; rfl
                    rw [hnm] at hsz honce
                    have Hnm := Lib.hid hnx2
                    obtain ⟨ad4, nm', hAn, hnx, cn⟩ := k5.on.rds.getS hk4
                    obtain rfl : nm = nm' := by rw [hnx2] at hnx; exact Option.some.inj hnx
                    have hbq := k5.hb
                    rw [Hq2.out] at hbq
                    have q0 : ∀ wx, Chg Non wr wx → wx.cell? ⟨w1.heap.size, 0, none⟩ = some (.pointer (some ⟨h2'.g, 0, none⟩)) := fun wx hc => hc.cell (hbq.cell 0) id
                    have q4 : ∀ wx, Chg Non wr wx → wx.cell? ⟨w1.heap.size, 4, none⟩ = some (.slice (some ad4) T h2'.cn) := fun wx hc => by rw [hc.cell (hbq.cell 4) id, ← hAn]; rfl
                    have g00 : ∀ wx, Chg Non wr wx → wx.cell? ⟨h2'.g, 0, none⟩ = some (.map (some h2'.sm)) := fun wx hc => hc.cell (k5.hg.hb.cell 0) id
                    have nn0 : ∀ wx, Chg Non wr wx → wx.cell? (ad4.add k4) = some (.string nm) := fun wx hc => hc.cell cn id
                    have ql := hbq.lt
                    have gl := k5.hg.hb.lt
                    have nl := World.block_lt_of_cell? wr _ cn
                    have hnsB := HB2.out.ns
                    have K5 := Lib.hid k5
                    have HC := Lib.hid hC
                    clear k5 hnx hnx2 cn hbq hAn hC hnm
                    go_wp2_with fail
                    refine st_region_tail 12 15 Non [7] [] (fun _ _ v wx => ∃ A c L, v = .slice A h2'.ns c ∧ (∀ y, y ∈ L ↔ s2.g.has y = true) ∧ Rds wx 1 A h2'.ns (sv L)) (fun _ _ _ _ => True) (fun _ _ v => ∃ A m c, v = .slice A m c) (fun _ => True) (by kernel_rfl) (by kernel_rfl) (by kernel_rfl) (fun _ h => h.elim) trivial (fun _ _ _ => trivial) ?_
                    repeat (first | (refine st_pass (by rfl) ?_; simp only [Act.put, List.setIfInBounds_toArray, List.set_cons_succ, List.set_cons_zero]) | (refine st_plain (Non) (wr) rfl rfl (f := ?_) (by rfl) rfl rfl (fun w hC hG => ?_) ?_; rotate_left; (clear hG; first | (go_simp; done) | (go_simp; with_reducible rfl) | (simp [*, go_sem, ↓IntWalk.iteOmega]; done) | (simp [*, go_sem, ↓IntWalk.iteOmega]; with_reducible rfl)); simp only [Act.put, List.setIfInBounds_toArray, List.set_cons_succ, List.set_cons_zero]))
                    refine st_major (Non) (wr) rfl rfl (by rfl) rfl (⟨.slice none 0 0, none, 0, 0, rfl⟩) (fun _ _ _ _ _ _ => trivial) (fun v wx ob h => h.imp fun A h => h.imp fun c h => h.imp fun L h => ⟨h.1, h.2.1, h.2.2.non ((Chg.refl _ wx).alloc ob)⟩) (fun w hC hG hS => settle_of (r2 := ?_) ?_ ?_) ?_
                    rotate_left
                    (first | (go_simp; done) | (go_simp; rfl))
                    · refine settle_enter ((setHas_any w h2'.sm h2'.ns s2.g.has (K5.out.hg.non hC).hs (by omega)).mono ?_)
                      rintro e w6 ⟨A6, c6, L6, rfl, _, hm6, _, ho6, hc6⟩
                      exact ⟨_, rfl, ⟨_, _, _, rfl⟩, hc6, ⟨A6, c6, L6, rfl, hm6, ho6.rds⟩, trivial⟩
                    rintro v8 ⟨A8, m8, c8, rfl⟩
                    simp only [Act.put, List.setIfInBounds_toArray, List.set_cons_succ, List.set_cons_zero]
                    repeat (first | (refine st_pass (by rfl) ?_; simp only [Act.put, List.setIfInBounds_toArray, List.set_cons_succ, List.set_cons_zero]) | (refine st_plain (Non) (wr) rfl rfl (f := ?_) (by rfl) rfl rfl (fun w hC hG => ?_) ?_; rotate_left; (clear hG; first | (go_simp; done) | (go_simp; with_reducible rfl) | (simp [*, go_sem, ↓IntWalk.iteOmega]; done) | (simp [*, go_sem, ↓IntWalk.iteOmega]; with_reducible rfl)); simp only [Act.put, List.setIfInBounds_toArray, List.set_cons_succ, List.set_cons_zero]))
                    refine st_tail Non wr rfl rfl rfl (fun w7 hC7 hS7 _ => ?_)
                    simp only [List.drop_succ_cons, List.drop_zero]
                    obtain ⟨A9, c9, L9, e9, hm9, hr9⟩ := hS7
                    injection e9 with e91 e92 e93
                    subst e91 e92 e93
                    have hHa := has_any w7 A8 h2'.ns c8 L9 nm hr9 (by omega)
                    rw [show hasL L9 nm = s2.g.has nm from by rw [Bool.eq_iff_iff, hasL_true, hm9]] at hHa
                    have K7 := Lib.hid (K5.out.non hC7)
                    have hC7 := Lib.hid (HC.out.non hC7)
                    clear q0 q4 g00 nn0 ql gl nl hm9 hr9 K5 HC
                    cases hgh : s2.g.has nm with
                    | true =>
                      rw [hgh] at hHa honce
                      rw [if_pos rfl] at honce
                      have Honce := Lib.hid honce
                      clear honce
                      go_wp2_with fail
                      refine hHa.mono ?_
                      clear hHa
                      rintro e w9 ⟨rfl, rfl⟩
                      go_wp2_with fail
                      go_loopw [17, 18] (fun cv i wr => ∃ m : Nat, m ≤ N ∧ i = .int .i64 m ∧ cv = .int .i64 ((1 + cntT (s2.t.take m) nm : Nat) : Int) ∧ Wd wr w.heap.size col2 h2' s2 T ∧ Chg Non w wr) (fun _ i _ => N - (intOf i).toNat)
                      case atStart => exact ⟨0, Nat.zero_le _, rfl, rfl, K7.out, hC7.out⟩
                      case round =>
                        clear K7 hC7
                        obtain ⟨m, hm, rfl, rfl, k5, hC⟩ := hrel
                        have hcN : 1 + cntT (s2.t.take m) nm ≤ 100 := by have : cntT (s2.t.take m) nm ≤ (s2.t.take m).length := List.countP_le_length; have e : (s2.t.take m).length ≤ m := List.length_take_le _ _; omega
                        obtain ⟨cc, hcc⟩ : ∃ cc, 1 + cntT (s2.t.take m) nm = cc := ⟨_, rfl⟩
                        rw [hcc] at hcN ⊢
                        have Hcc := Lib.hid hcc
                        clear hcc
                        by_cases hlt : m < N
                        · have htl := HI2.out.tlen
                          obtain ⟨x, hx⟩ : ∃ x, s2.t[m]? = some x := ⟨_, List.getElem?_eq_getElem (by rw [htl]; exact hlt)⟩
                          obtain ⟨ad1, p, hAt, hp, cp⟩ := k5.ot.rds.getMap (f := tpV) (k := m) (by rw [k5.tl, htl]; exact hlt)
                          have hTk := k5.ht m p x hp hx
                          have hpB := HB2.out.tp m p hp
                          obtain ⟨ad4, nm', hAn, hnx, cn⟩ := k5.on.rds.getS hk4
                          obtain rfl : nm = nm' := by rw [Hnm.out] at hnx; exact Option.some.inj hnx
                          have hbq := k5.hb
                          rw [Hq2.out] at hbq
                          have q1 : ∀ wx, Chg Non wr wx → wx.cell? ⟨w1.heap.size, 1, none⟩ = some (.slice (some ad1) h2'.tp.length h2'.ct) := fun wx hc => by rw [hc.cell (hbq.cell 1) id, ← hAt]; rfl
                          have q4 : ∀ wx, Chg Non wr wx → wx.cell? ⟨w1.heap.size, 4, none⟩ = some (.slice (some ad4) T h2'.cn) := fun wx hc => by rw [hc.cell (hbq.cell 4) id, ← hAn]; rfl
                          have tp0 : ∀ wx, Chg Non wr wx → wx.cell? (ad1.add m) = some (.pointer (some ⟨p.t, 0, none⟩)) := fun wx hc => hc.cell cp id
                          have tm0 : ∀ wx, Chg Non wr wx → wx.cell? ⟨p.t, 0, none⟩ = some (.map (some p.sm)) := fun wx hc => hc.cell (hTk.hb.cell 0) id
                          have nn0 : ∀ wx, Chg Non wr wx → wx.cell? (ad4.add k4) = some (.string nm) := fun wx hc => hc.cell cn id
                          have ql := hbq.lt
                          have pl := hTk.hb.lt
                          have al := World.block_lt_of_cell? wr _ cp
                          have nl := World.block_lt_of_cell? wr _ cn
                          have hmtp : m < h2'.tp.length := by rw [k5.tl, htl]; exact hlt
                          have K5 := Lib.hid k5
                          have HTk := Lib.hid hTk
                          have Hx := Lib.hid hx
                          have HC := Lib.hid hC
                          clear k5 hTk hx hp cp hnx cn hbq hAt hAn hC htl
                          go_wp2_with fail
                          refine st_region_tail 12 18 Non [10] [] (fun _ _ v wx => ∃ A c L, v = .slice A p.ns c ∧ (∀ y, y ∈ L ↔ x.has y = true) ∧ Rds wx 1 A p.ns (sv L)) (fun _ _ _ _ => True) (fun _ _ v => ∃ A m c, v = .slice A m c) (fun _ => True) (by kernel_rfl) (by kernel_rfl) (by kernel_rfl) (fun _ h => h.elim) trivial (fun _ _ _ => trivial) ?_
                          repeat (first | (refine st_pass (by rfl) ?_; simp only [Act.put, List.setIfInBounds_toArray, List.set_cons_succ, List.set_cons_zero]) | (refine st_plain (Non) (wr) rfl rfl (f := ?_) (by rfl) rfl rfl (fun w hC hG => ?_) ?_; rotate_left; (clear hG; first | (go_simp; done) | (go_simp; with_reducible rfl) | (simp [*, go_sem, ↓IntWalk.iteOmega]; done) | (simp [*, go_sem, ↓IntWalk.iteOmega]; with_reducible rfl)); simp only [Act.put, List.setIfInBounds_toArray, List.set_cons_succ, List.set_cons_zero]))
                          refine st_major (Non) (wr) rfl rfl (by rfl) rfl (⟨.slice none 0 0, none, 0, 0, rfl⟩) (fun _ _ _ _ _ _ => trivial) (fun v wx ob h => h.imp fun A h => h.imp fun c h => h.imp fun L h => ⟨h.1, h.2.1, h.2.2.non ((Chg.refl _ wx).alloc ob)⟩) (fun w hC hG hS => settle_of (r2 := ?_) ?_ ?_) ?_
                          rotate_left
                          (first | (go_simp; done) | (go_simp; rfl))
                          · refine settle_enter ((setHas_any w p.sm p.ns x.has (HTk.out.non hC).hs (by omega)).mono ?_)
                            rintro e w6 ⟨A6, c6, L6, rfl, _, hm6, _, ho6, hc6⟩
                            exact ⟨_, rfl, ⟨_, _, _, rfl⟩, hc6, ⟨A6, c6, L6, rfl, hm6, ho6.rds⟩, trivial⟩
                          rintro v8 ⟨A8, m8, c8, rfl⟩
                          simp only [Act.put, List.setIfInBounds_toArray, List.set_cons_succ, List.set_cons_zero]
                          repeat (first | (refine st_pass (by rfl) ?_; simp only [Act.put, List.setIfInBounds_toArray, List.set_cons_succ, List.set_cons_zero]) | (refine st_plain (Non) (wr) rfl rfl (f := ?_) (by rfl) rfl rfl (fun w hC hG => ?_) ?_; rotate_left; (clear hG; first | (go_simp; done) | (go_simp; with_reducible rfl) | (simp [*, go_sem, ↓IntWalk.iteOmega]; done) | (simp [*, go_sem, ↓IntWalk.iteOmega]; with_reducible rfl)); simp only [Act.put, List.setIfInBounds_toArray, List.set_cons_succ, List.set_cons_zero]))
                          refine st_tail Non wr rfl rfl rfl (fun w7 hC7 hS7 _ => ?_)
                          simp only [List.drop_succ_cons, List.drop_zero]
                          obtain ⟨A9, c9, L9, e9, hm9, hr9⟩ := hS7
                          injection e9 with e91 e92 e93
                          subst e91 e92 e93
                          have hHa := has_any w7 A8 p.ns c8 L9 nm hr9 (by omega)
                          rw [show hasL L9 nm = x.has nm from by rw [Bool.eq_iff_iff, hasL_true, hm9]] at hHa
                          have k7 := Lib.hid (K5.out.non hC7)
                          have hC8 := Lib.hid (HC.out.non hC7)
                          have hst := cnt_step Hx.out nm
                          clear q1 q4 tp0 tm0 nn0 ql pl al nl hC7 hm9 hr9 K5 HC
                          cases hxh : x.has nm with
                          | true =>
                            rw [hxh] at hHa hst
                            have Hst := Lib.hid hst
                            clear hst
                            go_wp2_with fail
                            refine hHa.mono ?_
                            clear hHa
                            rintro e w9 ⟨rfl, rfl⟩
                            go_wp2_with fail
                            go_roundw
                            case rel => exact ⟨m + 1, by omega, by go_num, by rw [show 1 + cntT (s2.t.take (m + 1)) nm = cc + 1 from by have e1 := Hst.out; have e2 := Hcc.out; simp at e1; omega]; go_num, k7.out, hC8.out⟩
                            case measure => simp [intOf]; omega
                          | false =>
                            rw [hxh] at hHa hst
                            have Hst := Lib.hid hst
                            clear hst
                            go_wp2_with fail
                            refine hHa.mono ?_
                            clear hHa
                            rintro e w9 ⟨rfl, rfl⟩
                            go_wp2_with fail
                            go_roundw
                            case rel => exact ⟨m + 1, by omega, by go_num, by rw [show 1 + cntT (s2.t.take (m + 1)) nm = cc from by have e1 := Hst.out; have e2 := Hcc.out; simp at e1; omega], k7.out, hC8.out⟩
                            case measure => simp [intOf]; omega
                        · have hmN : N = m := by omega
                          have hcc := Honce.out
                          have e9 := Hcc.out
                          rw [show s2.t.take m = s2.t from List.take_of_length_le (by rw [HI2.out.tlen]; omega)] at e9
                          rw [e9] at hcc
                          clear e9
                          obtain ⟨hcc1, hcc0⟩ := hcc
                          obtain ⟨cs, hcs, hcz, hco⟩ := again_form s2.g nm
                          obtain ⟨ad4, nm', hAn, hnx, cn⟩ := k5.on.rds.getS hk4
                          obtain rfl : nm = nm' := by rw [Hnm.out] at hnx; exact Option.some.inj hnx
                          have hbq := k5.hb
                          rw [Hq2.out] at hbq
                          have q0 : ∀ wx, Chg Non wr wx → wx.cell? ⟨w1.heap.size, 0, none⟩ = some (.pointer (some ⟨h2'.g, 0, none⟩)) := fun wx hc => hc.cell (hbq.cell 0) id
                          have q4 : ∀ wx, Chg Non wr wx → wx.cell? ⟨w1.heap.size, 4, none⟩ = some (.slice (some ad4) T h2'.cn) := fun wx hc => by rw [hc.cell (hbq.cell 4) id, ← hAn]; rfl
                          have nn0 : ∀ wx, Chg Non wr wx → wx.cell? (ad4.add k4) = some (.string nm) := fun wx hc => hc.cell cn id
                          have ql := hbq.lt
                          have nl := World.block_lt_of_cell? wr _ cn
                          have hAg : ∀ wx, Chg Non wr wx → Calls Try.prog 15 #[.pointer (some ⟨h2'.g, 0, none⟩), .string nm] wx fun e w9 => e = .returned (.tuple #[.agg cs, .bool (s2.g.off nm).isSome]) ∧ Chg Non wx w9 := fun wx hc => by
                            have := gvAgain_any wx _ h2'.g h2'.sm h2'.om h2'.ns h2'.no s2.g (k5.hg.non hc) nm hsz
                            rw [hcs] at this
                            exact this
                          have HAg := Lib.hid hAg
                          have K5 := Lib.hid k5
                          have HC := Lib.hid hC
                          have Hcz := Lib.hid hcz
                          have Hco := Lib.hid hco
                          generalize hof : (s2.g.off nm).isSome = of_ at HAg hcc0
                          clear k5 hnx cn hbq hAn hC hAg hcs hcN hmN hcz hco hof
                          go_wp2_with fail
                          refine st_region_last 12 16 14 Non [11] [15] (fun _ _ _ _ => True) (fun _ _ _ _ => True) (fun _ _ v => v = .tuple #[.agg cs, .bool of_]) (fun _ => True) (by kernel_rfl) (by kernel_rfl) (by kernel_rfl) (by kernel_rfl) (by decide) rfl rfl rfl rfl rfl rfl rfl (fun _ h => h.elim) trivial (fun _ _ _ => trivial) ?_
                          repeat (first | (refine st_pass (by rfl) ?_; simp only [Act.put, List.setIfInBounds_toArray, List.set_cons_succ, List.set_cons_zero]) | (refine st_plain (Non) (wr) rfl rfl (f := ?_) (by rfl) rfl rfl (fun w hC hG => ?_) ?_; rotate_left; (clear hG; first | (go_simp; done) | (go_simp; with_reducible rfl) | (simp [*, go_sem, ↓IntWalk.iteOmega]; done) | (simp [*, go_sem, ↓IntWalk.iteOmega]; with_reducible rfl)); simp only [Act.put, List.setIfInBounds_toArray, List.set_cons_succ, List.set_cons_zero]))
                          refine st_major (Non) (wr) rfl rfl (by rfl) rfl (⟨_, rfl⟩) (fun _ _ _ _ _ _ => trivial) (fun _ _ _ _ => trivial) (fun w hC hG hS => settle_of (r2 := ?_) ?_ ?_) ?_
                          rotate_left
                          (first | (go_simp; done) | (go_simp; rfl))
                          · refine settle_enter ((HAg.out w hC).mono ?_)
                            rintro e w6 ⟨rfl, hc6⟩
                            exact ⟨_, rfl, rfl, hc6, trivial, trivial⟩
                          rintro v hv
                          obtain rfl : v = .tuple #[.agg cs, .bool of_] := hv
                          simp only [Act.put, List.setIfInBounds_toArray, List.set_cons_succ, List.set_cons_zero]
                          repeat (first | (refine st_pass (by rfl) ?_; simp only [Act.put, List.setIfInBounds_toArray, List.set_cons_succ, List.set_cons_zero]) | (refine st_plain (Non) (wr) rfl rfl (f := ?_) (by rfl) rfl rfl (fun w hC hG => ?_) ?_; rotate_left; (clear hG; first | (go_simp; done) | (go_simp; with_reducible rfl) | (simp [*, go_sem, ↓IntWalk.iteOmega]; done) | (simp [*, go_sem, ↓IntWalk.iteOmega]; with_reducible rfl)); simp only [Act.put, List.setIfInBounds_toArray, List.set_cons_succ, List.set_cons_zero]))
                          refine st_minor Non wr rfl rfl (ob := .cells #[.int .i64 0, .int .i64 0, .int .i64 0, .int .i64 0, .string ⟨#[]⟩, .int .i64 0, .slice none 0 0, .int .i64 0, .int .i64 0, .int .i64 0, .slice none 0 0] 59) (kd := none) (by rfl) rfl rfl (fun w hC hG => by clear hG; go_simp; rfl) (fun g3 => ?_)
                          simp only [Act.put, List.setIfInBounds_toArray, List.set_cons_succ, List.set_cons_zero]
                          refine st_tail Non wr rfl rfl rfl (fun w7 hC7 _ hG7 => ?_)
                          have hB3 : Blk w7 g3 59 #[.int .i64 0, .int .i64 0, .int .i64 0, .int .i64 0, .string ⟨#[]⟩, .int .i64 0, .slice none 0 0, .int .i64 0, .int .i64 0, .int .i64 0, .slice none 0 0] := (hG7 15).2
                          have hg3 : wr.heap.size ≤ g3 := (hG7 15).1
                          clear hG7
                          refine ⟨_, exec_store (cs := cs) _ _ rfl rfl rfl hB3 (by rw [Hcz.out]; rfl) (by rw [Hcz.out]; kernel_rfl) Hco.out, ?_⟩
                          simp only [List.drop_succ_cons, List.drop_zero]
                          have hCs : Chg (fun b => b = g3) w7 (w7.setCells g3 0 cs.toList) := Chg.sets (S := fun b => b = g3) (.inl rfl) _ _ _ (Chg.refl _ w7)
                          show wpList _ _ _ _ _ (w7.setCells g3 0 cs.toList)
                          obtain ⟨w8, hw8⟩ : ∃ w8, w7.setCells g3 0 cs.toList = w8 := ⟨_, rfl⟩
                          rw [hw8] at hCs ⊢
                          have hC8 : Chg Non wr w8 := hC7.trans2 hCs (fun b e => .inr (by have e : b = g3 := e; omega))
                          have k8 := Lib.hid (K5.out.non hC8)
                          have hC9 := Lib.hid (HC.out.non hC8)
                          clear hw8 hCs hC8 hB3 hC7 q0 q4 nn0 ql nl K5 HC HAg
                          rcases Nat.eq_zero_or_pos cc with hc0 | hc0
                          · obtain rfl : of_ = true := hcc0 hc0
                            subst hc0
                            clear hcc0 hcc1
                            go_wp2_with fail
                            go_roundw
                            case rel => exact ⟨k4 + 1, by omega, by go_num, k8.out, hC9.out⟩
                            case measure => simp [intOf]; omega
                          · obtain rfl : cc = 1 := by omega
                            clear hcc0 hcc1 hc0
                            go_wp2_with fail
                            go_roundw
                            case rel => exact ⟨k4 + 1, by omega, by go_num, k8.out, hC9.out⟩
                            case measure => simp [intOf]; omega
                    | false =>
                      rw [hgh] at hHa honce
                      rw [if_neg Bool.false_ne_true] at honce
                      have Honce := Lib.hid honce
                      clear honce
                      go_wp2_with fail
                      refine hHa.mono ?_
                      clear hHa
                      rintro e w9 ⟨rfl, rfl⟩
                      go_wp2_with fail
                      go_loopw [17, 18] (fun cv i wr => ∃ m : Nat, m ≤ N ∧ i = .int .i64 m ∧ cv = .int .i64 ((0 + cntT (s2.t.take m) nm : Nat) : Int) ∧ Wd wr w.heap.size col2 h2' s2 T ∧ Chg Non w wr) (fun _ i _ => N - (intOf i).toNat)
                      case atStart => exact ⟨0, Nat.zero_le _, rfl, rfl, K7.out, hC7.out⟩
                      case round =>
                        clear K7 hC7
                        obtain ⟨m, hm, rfl, rfl, k5, hC⟩ := hrel
                        have hcN : 0 + cntT (s2.t.take m) nm ≤ 100 := by have : cntT (s2.t.take m) nm ≤ (s2.t.take m).length := List.countP_le_length; have e : (s2.t.take m).length ≤ m := List.length_take_le _ _; omega
                        obtain ⟨cc, hcc⟩ : ∃ cc, 0 + cntT (s2.t.take m) nm = cc := ⟨_, rfl⟩
                        rw [hcc] at hcN ⊢
                        have Hcc := Lib.hid hcc
                        clear hcc
                        by_cases hlt : m < N
                        · have htl := HI2.out.tlen
                          obtain ⟨x, hx⟩ : ∃ x, s2.t[m]? = some x := ⟨_, List.getElem?_eq_getElem (by rw [htl]; exact hlt)⟩
                          obtain ⟨ad1, p, hAt, hp, cp⟩ := k5.ot.rds.getMap (f := tpV) (k := m) (by rw [k5.tl, htl]; exact hlt)
                          have hTk := k5.ht m p x hp hx
                          have hpB := HB2.out.tp m p hp
                          obtain ⟨ad4, nm', hAn, hnx, cn⟩ := k5.on.rds.getS hk4
                          obtain rfl : nm = nm' := by rw [Hnm.out] at hnx; exact Option.some.inj hnx
                          have hbq := k5.hb
                          rw [Hq2.out] at hbq
                          have q1 : ∀ wx, Chg Non wr wx → wx.cell? ⟨w1.heap.size, 1, none⟩ = some (.slice (some ad1) h2'.tp.length h2'.ct) := fun wx hc => by rw [hc.cell (hbq.cell 1) id, ← hAt]; rfl
                          have q4 : ∀ wx, Chg Non wr wx → wx.cell? ⟨w1.heap.size, 4, none⟩ = some (.slice (some ad4) T h2'.cn) := fun wx hc => by rw [hc.cell (hbq.cell 4) id, ← hAn]; rfl
                          have tp0 : ∀ wx, Chg Non wr wx → wx.cell? (ad1.add m) = some (.pointer (some ⟨p.t, 0, none⟩)) := fun wx hc => hc.cell cp id
                          have tm0 : ∀ wx, Chg Non wr wx → wx.cell? ⟨p.t, 0, none⟩ = some (.map (some p.sm)) := fun wx hc => hc.cell (hTk.hb.cell 0) id
                          have nn0 : ∀ wx, Chg Non wr wx → wx.cell? (ad4.add k4) = some (.string nm) := fun wx hc => hc.cell cn id
                          have ql := hbq.lt
                          have pl := hTk.hb.lt
                          have al := World.block_lt_of_cell? wr _ cp
                          have nl := World.block_lt_of_cell? wr _ cn
                          have hmtp : m < h2'.tp.length := by rw [k5.tl, htl]; exact hlt
                          have K5 := Lib.hid k5
                          have HTk := Lib.hid hTk
                          have Hx := Lib.hid hx
                          have HC := Lib.hid hC
                          clear k5 hTk hx hp cp hnx cn hbq hAt hAn hC htl
                          go_wp2_with fail
                          refine st_region_tail 12 18 Non [10] [] (fun _ _ v wx => ∃ A c L, v = .slice A p.ns c ∧ (∀ y, y ∈ L ↔ x.has y = true) ∧ Rds wx 1 A p.ns (sv L)) (fun _ _ _ _ => True) (fun _ _ v => ∃ A m c, v = .slice A m c) (fun _ => True) (by kernel_rfl) (by kernel_rfl) (by kernel_rfl) (fun _ h => h.elim) trivial (fun _ _ _ => trivial) ?_
                          repeat (first | (refine st_pass (by rfl) ?_; simp only [Act.put, List.setIfInBounds_toArray, List.set_cons_succ, List.set_cons_zero]) | (refine st_plain (Non) (wr) rfl rfl (f := ?_) (by rfl) rfl rfl (fun w hC hG => ?_) ?_; rotate_left; (clear hG; first | (go_simp; done) | (go_simp; with_reducible rfl) | (simp [*, go_sem, ↓IntWalk.iteOmega]; done) | (simp [*, go_sem, ↓IntWalk.iteOmega]; with_reducible rfl)); simp only [Act.put, List.setIfInBounds_toArray, List.set_cons_succ, List.set_cons_zero]))
                          refine st_major (Non) (wr) rfl rfl (by rfl) rfl (⟨.slice none 0 0, none, 0, 0, rfl⟩) (fun _ _ _ _ _ _ => trivial) (fun v wx ob h => h.imp fun A h => h.imp fun c h => h.imp fun L h => ⟨h.1, h.2.1, h.2.2.non ((Chg.refl _ wx).alloc ob)⟩) (fun w hC hG hS => settle_of (r2 := ?_) ?_ ?_) ?_
                          rotate_left
                          (first | (go_simp; done) | (go_simp; rfl))
                          · refine settle_enter ((setHas_any w p.sm p.ns x.has (HTk.out.non hC).hs (by omega)).mono ?_)
                            rintro e w6 ⟨A6, c6, L6, rfl, _, hm6, _, ho6, hc6⟩
                            exact ⟨_, rfl, ⟨_, _, _, rfl⟩, hc6, ⟨A6, c6, L6, rfl, hm6, ho6.rds⟩, trivial⟩
                          rintro v8 ⟨A8, m8, c8, rfl⟩
                          simp only [Act.put, List.setIfInBounds_toArray, List.set_cons_succ, List.set_cons_zero]
                          repeat (first | (refine st_pass (by rfl) ?_; simp only [Act.put, List.setIfInBounds_toArray, List.set_cons_succ, List.set_cons_zero]) | (refine st_plain (Non) (wr) rfl rfl (f := ?_) (by rfl) rfl rfl (fun w hC hG => ?_) ?_; rotate_left; (clear hG; first | (go_simp; done) | (go_simp; with_reducible rfl) | (simp [*, go_sem, ↓IntWalk.iteOmega]; done) | (simp [*, go_sem, ↓IntWalk.iteOmega]; with_reducible rfl)); simp only [Act.put, List.setIfInBounds_toArray, List.set_cons_succ, List.set_cons_zero]))
                          refine st_tail Non wr rfl rfl rfl (fun w7 hC7 hS7 _ => ?_)
                          simp only [List.drop_succ_cons, List.drop_zero]
                          obtain ⟨A9, c9, L9, e9, hm9, hr9⟩ := hS7
                          injection e9 with e91 e92 e93
                          subst e91 e92 e93
                          have hHa := has_any w7 A8 p.ns c8 L9 nm hr9 (by omega)
                          rw [show hasL L9 nm = x.has nm from by rw [Bool.eq_iff_iff, hasL_true, hm9]] at hHa
                          have k7 := Lib.hid (K5.out.non hC7)
                          have hC8 := Lib.hid (HC.out.non hC7)
                          have hst := cnt_step Hx.out nm
                          clear q1 q4 tp0 tm0 nn0 ql pl al nl hC7 hm9 hr9 K5 HC
                          cases hxh : x.has nm with
                          | true =>
                            rw [hxh] at hHa hst
                            have Hst := Lib.hid hst
                            clear hst
                            go_wp2_with fail
                            refine hHa.mono ?_
                            clear hHa
                            rintro e w9 ⟨rfl, rfl⟩
                            go_wp2_with fail
                            go_roundw
                            case rel => exact ⟨m + 1, by omega, by go_num, by rw [show 0 + cntT (s2.t.take (m + 1)) nm = cc + 1 from by have e1 := Hst.out; have e2 := Hcc.out; simp at e1; omega]; go_num, k7.out, hC8.out⟩
                            case measure => simp [intOf]; omega
                          | false =>
                            rw [hxh] at hHa hst
                            have Hst := Lib.hid hst
                            clear hst
                            go_wp2_with fail
                            refine hHa.mono ?_
                            clear hHa
                            rintro e w9 ⟨rfl, rfl⟩
                            go_wp2_with fail
                            go_roundw
                            case rel => exact ⟨m + 1, by omega, by go_num, by rw [show 0 + cntT (s2.t.take (m + 1)) nm = cc from by have e1 := Hst.out; have e2 := Hcc.out; simp at e1; omega], k7.out, hC8.out⟩
                            case measure => simp [intOf]; omega
                        · have hmN : N = m := by omega
                          have hcc := Honce.out
                          have e9 := Hcc.out
                          rw [show s2.t.take m = s2.t from List.take_of_length_le (by rw [HI2.out.tlen]; omega)] at e9
                          rw [e9] at hcc
                          clear e9
                          obtain ⟨hcc1, hcc0⟩ := hcc
                          obtain ⟨cs, hcs, hcz, hco⟩ := again_form s2.g nm
                          obtain ⟨ad4, nm', hAn, hnx, cn⟩ := k5.on.rds.getS hk4
                          obtain rfl : nm = nm' := by rw [Hnm.out] at hnx; exact Option.some.inj hnx
                          have hbq := k5.hb
                          rw [Hq2.out] at hbq
                          have q0 : ∀ wx, Chg Non wr wx → wx.cell? ⟨w1.heap.size, 0, none⟩ = some (.pointer (some ⟨h2'.g, 0, none⟩)) := fun wx hc => hc.cell (hbq.cell 0) id
                          have q4 : ∀ wx, Chg Non wr wx → wx.cell? ⟨w1.heap.size, 4, none⟩ = some (.slice (some ad4) T h2'.cn) := fun wx hc => by rw [hc.cell (hbq.cell 4) id, ← hAn]; rfl
                          have nn0 : ∀ wx, Chg Non wr wx → wx.cell? (ad4.add k4) = some (.string nm) := fun wx hc => hc.cell cn id
                          have ql := hbq.lt
                          have nl := World.block_lt_of_cell? wr _ cn
                          have hAg : ∀ wx, Chg Non wr wx → Calls Try.prog 15 #[.pointer (some ⟨h2'.g, 0, none⟩), .string nm] wx fun e w9 => e = .returned (.tuple #[.agg cs, .bool (s2.g.off nm).isSome]) ∧ Chg Non wx w9 := fun wx hc => by
                            have := gvAgain_any wx _ h2'.g h2'.sm h2'.om h2'.ns h2'.no s2.g (k5.hg.non hc) nm hsz
                            rw [hcs] at this
                            exact this
                          have HAg := Lib.hid hAg
                          have K5 := Lib.hid k5
                          have HC := Lib.hid hC
                          have Hcz := Lib.hid hcz
                          have Hco := Lib.hid hco
                          generalize hof : (s2.g.off nm).isSome = of_ at HAg hcc0
                          clear k5 hnx cn hbq hAn hC hAg hcs hcN hmN hcz hco hof
                          go_wp2_with fail
                          refine st_region_last 12 16 14 Non [11] [15] (fun _ _ _ _ => True) (fun _ _ _ _ => True) (fun _ _ v => v = .tuple #[.agg cs, .bool of_]) (fun _ => True) (by kernel_rfl) (by kernel_rfl) (by kernel_rfl) (by kernel_rfl) (by decide) rfl rfl rfl rfl rfl rfl rfl (fun _ h => h.elim) trivial (fun _ _ _ => trivial) ?_
                          repeat (first | (refine st_pass (by rfl) ?_; simp only [Act.put, List.setIfInBounds_toArray, List.set_cons_succ, List.set_cons_zero]) | (refine st_plain (Non) (wr) rfl rfl (f := ?_) (by rfl) rfl rfl (fun w hC hG => ?_) ?_; rotate_left; (clear hG; first | (go_simp; done) | (go_simp; with_reducible rfl) | (simp [*, go_sem, ↓IntWalk.iteOmega]; done) | (simp [*, go_sem, ↓IntWalk.iteOmega]; with_reducible rfl)); simp only [Act.put, List.setIfInBounds_toArray, List.set_cons_succ, List.set_cons_zero]))
                          refine st_major (Non) (wr) rfl rfl (by rfl) rfl (⟨_, rfl⟩) (fun _ _ _ _ _ _ => trivial) (fun _ _ _ _ => trivial) (fun w hC hG hS => settle_of (r2 := ?_) ?_ ?_) ?_
                          rotate_left
                          (first | (go_simp; done) | (go_simp; rfl))
                          · refine settle_enter ((HAg.out w hC).mono ?_)
                            rintro e w6 ⟨rfl, hc6⟩
                            exact ⟨_, rfl, rfl, hc6, trivial, trivial⟩
                          rintro v hv
                          obtain rfl : v = .tuple #[.agg cs, .bool of_] := hv
                          simp only [Act.put, List.setIfInBounds_toArray, List.set_cons_succ, List.set_cons_zero]
                          repeat (first | (refine st_pass (by rfl) ?_; simp only [Act.put, List.setIfInBounds_toArray, List.set_cons_succ, List.set_cons_zero]) | (refine st_plain (Non) (wr) rfl rfl (f := ?_) (by rfl) rfl rfl (fun w hC hG => ?_) ?_; rotate_left; (clear hG; first | (go_simp; done) | (go_simp; with_reducible rfl) | (simp [*, go_sem, ↓IntWalk.iteOmega]; done) | (simp [*, go_sem, ↓IntWalk.iteOmega]; with_reducible rfl)); simp only [Act.put, List.setIfInBounds_toArray, List.set_cons_succ, List.set_cons_zero]))
                          refine st_minor Non wr rfl rfl (ob := .cells #[.int .i64 0, .int .i64 0, .int .i64 0, .int .i64 0, .string ⟨#[]⟩, .int .i64 0, .slice none 0 0, .int .i64 0, .int .i64 0, .int .i64 0, .slice none 0 0] 59) (kd := none) (by rfl) rfl rfl (fun w hC hG => by clear hG; go_simp; rfl) (fun g3 => ?_)
                          simp only [Act.put, List.setIfInBounds_toArray, List.set_cons_succ, List.set_cons_zero]
                          refine st_tail Non wr rfl rfl rfl (fun w7 hC7 _ hG7 => ?_)
                          have hB3 : Blk w7 g3 59 #[.int .i64 0, .int .i64 0, .int .i64 0, .int .i64 0, .string ⟨#[]⟩, .int .i64 0, .slice none 0 0, .int .i64 0, .int .i64 0, .int .i64 0, .slice none 0 0] := (hG7 15).2
                          have hg3 : wr.heap.size ≤ g3 := (hG7 15).1
                          clear hG7
                          refine ⟨_, exec_store (cs := cs) _ _ rfl rfl rfl hB3 (by rw [Hcz.out]; rfl) (by rw [Hcz.out]; kernel_rfl) Hco.out, ?_⟩
                          simp only [List.drop_succ_cons, List.drop_zero]
                          have hCs : Chg (fun b => b = g3) w7 (w7.setCells g3 0 cs.toList) := Chg.sets (S := fun b => b = g3) (.inl rfl) _ _ _ (Chg.refl _ w7)
                          show wpList _ _ _ _ _ (w7.setCells g3 0 cs.toList)
                          obtain ⟨w8, hw8⟩ : ∃ w8, w7.setCells g3 0 cs.toList = w8 := ⟨_, rfl⟩
                          rw [hw8] at hCs ⊢
                          have hC8 : Chg Non wr w8 := hC7.trans2 hCs (fun b e => .inr (by have e : b = g3 := e; omega))
                          have k8 := Lib.hid (K5.out.non hC8)
                          have hC9 := Lib.hid (HC.out.non hC8)
                          clear hw8 hCs hC8 hB3 hC7 q0 q4 nn0 ql nl K5 HC HAg
                          rcases Nat.eq_zero_or_pos cc with hc0 | hc0
                          · obtain rfl : of_ = true := hcc0 hc0
                            subst hc0
                            clear hcc0 hcc1
                            go_wp2_with fail
                            go_roundw
                            case rel => exact ⟨k4 + 1, by omega, by go_num, k8.out, hC9.out⟩
                            case measure => simp [intOf]; omega
                          · obtain rfl : cc = 1 := by omega
                            clear hcc0 hcc1 hc0
                            go_wp2_with fail
                            go_roundw
                            case rel => exact ⟨k4 + 1, by omega, by go_num, k8.out, hC9.out⟩
                            case measure => simp [intOf]; omega
                  · go_wp2_with fail
                    go_roundw
                    case rel => exact ⟨k + 1, col2, h2', s2, by omega, by go_num, Hq2.out, Hlm2.out, k5, HI2.out, by omega, HB2.out, hC⟩
                    case measure => simp [intOf]; omega
              · have hw2 : 1000 < s.way.length := by omega
                clear hw
                go_wp2_with fail
                go_ret
                exact ⟨rfl, hC⟩
            · go_wp2_with fail
              go_ret
              exact ⟨rfl, hC⟩
end Go.Proofs.Ytflaliomkfbagaa
