/-
  gleanerlaw1.PackReads: the walk.
-/
import Derived.Test.YtbjpnnpbhocffaaAlive
import Derived.Test.YtbjpnnpbhocffaaSide
namespace Go.Proofs.Ytbjpnnpbhocffaa
open Go.RowKit
set_option linter.unusedVariables false

theorem quietW {P : Program} {f : FuncId} {args : Array Value} {w : World} {n : Nat} {v : Value}
    (h : Calls P f args (w.drewN n) fun e w' => e = .returned v ∧ w.drewN n = w') : Calls P f args (w.drewN n) fun e w'' => e = .returned v ∧ ∃ m, w'' = w.drewN m :=
  h.mono fun _ _ ⟨he, hm⟩ => ⟨he, n, hm.symm⟩

theorem Rds.blkLt {w : World} {A : Option Addr} {n : Nat} {xs : List Value} (h : Rds w 1 A n xs) (h0 : 0 < n) (ad : Addr) (e : A = some ad) : ad.block < w.heap.size := by
  obtain ⟨a2, u, e2, _, hc⟩ := h.at_ h0
  rw [e] at e2
  cases e2
  have := World.block_lt_of_cell? _ _ hc
  rwa [block_add] at this

theorem RCur.badCell {w : World} {g : Nat} {R : List UInt8} {bad : Bool} (h : RCur w g R bad) : w.cell? ⟨g, 2, none⟩ = some (.bool bad) := by
  obtain ⟨A, n, c, B, t, hb, _⟩ := h
  exact hb.cell 2

theorem lenEmpty (R : List UInt8) (e : Bool) (h : R.isEmpty = e) : ((R.length : Int) == 0) = e := by
  subst h
  cases R with
  | nil => rfl
  | cons x R => simp; omega

/-- c.Bytes() and r.Bytes(), in whatever order. -/
def Both (w : World) (g g2 : Nat) (R : List UInt8) (bad : Bool) : Prop := Cur w g R bad ∧ RCur w g2 R bad

set_option maxRecDepth 100000 in
set_option maxHeartbeats 1000000 in
theorem packReads_core (w : World) (A : Option Addr) (n c : Nat) (hc : n ≤ c) (hcm : c ≤ maxLen) (b : List UInt8) (hr : Rds w 1 A n (bv b)) (A2 : Option Addr) (m c2 : Nat) (l : List Bool) (hr2 : Rds w 1 A2 m (l.map Value.bool)) (hn1 : n ≤ 2000) (hm1 : m ≤ 500)  :
    Calls Try.prog 6 #[.slice A n c, .slice A2 m c2] w fun e w2 => e = .returned (.bool true) ∧ Chg Non w w2 := by
  have hb1 : b.length ≤ 2000 := by have := hr.lenMap; omega
  have hr2k := Lib.hid hr2
  go_enter Try.func6, Try.ntmps6
  go_wp2_with fail
  refine (alive_any _).mono ?_
  rintro e w1 ⟨rfl, hc1⟩
  have hr1 := hr.non hc1
  clear hr2
  go_wp2_with fail
  refine (new_any _ _ _ _ _ hr1 (by omega)).mono ?_
  rintro e w7 ⟨g, rfl, hg, hcur, hc7⟩
  have hgw : w.heap.size ≤ g := Nat.le_trans hc1.size hg
  have hC := hc1.non hc7
  have hr7 := hr1.non hc7
  clear hr1 hr hc1 hc7 hg
  go_wp2_with fail
  have hcur2 : RCur (w7.alloc (.cells #[.slice A n c, .int .i64 0, .bool false] 41)) w7.heap.size b false :=
    ⟨A, n, c, b, 0, Blk.new _ _ _, hr7.non ((Chg.refl _ _).alloc _), hc, hcm, Nat.zero_le _, fun h0 ad e => by have := hr7.blkLt h0 ad e; omega, rfl⟩
  have hC2 : Chg Non w (w7.alloc (.cells #[.slice A n c, .int .i64 0, .bool false] 41)) := hC.alloc _
  have hcur1 : Cur (w7.alloc (.cells #[.slice A n c, .int .i64 0, .bool false] 41)) g b false := hcur.non ((Chg.refl _ _).alloc _)
  have hg2 : w.heap.size ≤ w7.heap.size := hC.size
  generalize (w7.alloc (.cells #[.slice A n c, .int .i64 0, .bool false] 41)) = W at hcur1 hcur2 hC2 ⊢
  generalize w7.heap.size = g2 at hcur2 hg2 ⊢
  clear hcur hC hr7
  go_wp2_with fail
  go_loopw [8] (fun i wr => ∃ (k : Nat) (R : List UInt8) (bad : Bool), k ≤ m ∧ i = .int .i64 k ∧ Cur wr g R bad ∧ RCur wr g2 R bad ∧ R.length ≤ 2000 ∧ Chg Non w wr) (fun i _ => m - (intOf i).toNat)
  case atStart => exact ⟨0, b, false, Nat.zero_le _, rfl, hcur1, hcur2, hb1, hC2⟩
  case round =>
    clear hcur1 hcur2 hC2 hb1
    obtain ⟨k, R, bad, hk, rfl, hcur, hcur2, hRl, hC⟩ := hrel
    by_cases hlt : k < m
    · obtain ⟨ad, x, rfl, hx, hcell⟩ := hr2k.out.getMap (f := Value.bool) hlt
      have hcellr := hC.cell hcell id
      have hgl := hcur.lt
      have hgl2 := hcur2.lt
      have hfine := Lib.hid hcur2.fine
      cases x
      · have hl2 : (cBytes R bad).2.1.length ≤ 2000 := Nat.le_trans (cBytes_len R bad) hRl
        have Hz : ∃ z, Hid (z = cBytes R bad) := ⟨_, rfl⟩
        obtain ⟨z, Hz⟩ := Hz
        rw [← Hz.out] at hl2
        go_wp2_with fail
        refine st_region 1 (fun b => b = g ∨ b = g2) [1, 4] []
          (fun i _ _ w => if i = 1 then Cur w g z.2.1 z.2.2 ∧ RCur w g2 R bad else Cur w g z.2.1 z.2.2 ∧ RCur w g2 z.2.1 z.2.2)
          (fun i _ v w2 => Own8 w2 wr.heap.size v z.1) (fun _ _ v => ∃ A n c, v = .slice A n c) (fun w => Cur w g R bad ∧ RCur w g2 R bad) (by kernel_rfl) (by kernel_rfl) (fun b h => by rcases h with h | h <;> (rw [h]; assumption)) ⟨hcur.non (Chg.refl _ _).drew, hcur2.non (Chg.refl _ _).drew⟩ (fun w ob h => ⟨h.1.non ((Chg.refl _ w).alloc ob), h.2.non ((Chg.refl _ w).alloc ob)⟩) ?_
        repeat (first | (refine st_pass (by rfl) ?_; simp only [Act.put, List.setIfInBounds_toArray, List.set_cons_succ, List.set_cons_zero]) | (refine st_plain (fun b => b = g ∨ b = g2) (wr) rfl rfl (f := ?_) (by rfl) rfl rfl (fun w hC hG => ?_) ?_; rotate_left; (clear hG; first | (go_simp; done) | (go_simp; with_reducible rfl) | (simp [*, go_sem, ↓IntWalk.iteOmega]; done) | (simp [*, go_sem, ↓IntWalk.iteOmega]; with_reducible rfl)); simp only [Act.put, List.setIfInBounds_toArray, List.set_cons_succ, List.set_cons_zero]))
        refine st_major (fun b => b = g ∨ b = g2) (wr) rfl rfl (by rfl) rfl (⟨.slice none 0 0, none, 0, 0, rfl⟩) (fun v w w2 _ h2 h => Own8.chg h h2 (fun b e hb => by have := (World.ownsRow.lt h b e).1; omega)) (fun v w ob h => ⟨h.1.non ((Chg.refl _ w).alloc ob), h.2.non ((Chg.refl _ w).alloc ob)⟩) (fun w hC hG hS => settle_of (r2 := ?_) ?_ ?_) ?_
        rotate_left
        (first | (go_simp; done) | (go_simp; rfl))
        · refine settle_enter ((bytes_any g R bad _ hS.1 (by omega)).mono ?_)
          rintro e w6 ⟨v6, rfl, hown, hcur6, hc6⟩
          rw [← Hz.out] at hown hcur6
          obtain ⟨A6, n6, c6, hv6, _⟩ := hown.open_
          exact ⟨v6, rfl, ⟨A6, n6, c6, hv6⟩, hc6.mono fun b e => .inl e, ⟨hcur6, hS.2.side hS.1 hc6⟩, own_mono hown hC.size⟩
        · rintro v ⟨A6, n6, c6, rfl⟩
          simp only [Act.put, List.setIfInBounds_toArray, List.set_cons_succ, List.set_cons_zero]
          refine st_plain (fun b => b = g ∨ b = g2) wr rfl rfl (f := .string ⟨z.1.toArray⟩) (by rfl) rfl rfl (fun w hC hG => ?_) ?_
          · obtain ⟨A, n, c, e, _, _, _, h⟩ := (show Own8 w wr.heap.size (.slice A6 n6 c6) z.1 from hG 1 rfl).open_
            cases e
            have q := run_string_rds Try.underlying23 Try.underlying5 Try.underlying9 h c6
            clear hG
            go_simp
          simp only [Act.put, List.setIfInBounds_toArray, List.set_cons_succ, List.set_cons_zero]
          repeat (first | (refine st_pass (by rfl) ?_; simp only [Act.put, List.setIfInBounds_toArray, List.set_cons_succ, List.set_cons_zero]) | (refine st_plain (fun b => b = g ∨ b = g2) (wr) rfl rfl (f := ?_) (by rfl) rfl rfl (fun w hC hG => ?_) ?_; rotate_left; (clear hG; first | (go_simp; done) | (go_simp; with_reducible rfl) | (simp [*, go_sem, ↓IntWalk.iteOmega]; done) | (simp [*, go_sem, ↓IntWalk.iteOmega]; with_reducible rfl)); simp only [Act.put, List.setIfInBounds_toArray, List.set_cons_succ, List.set_cons_zero]))
          refine st_major (fun b => b = g ∨ b = g2) (wr) rfl rfl (by rfl) rfl (⟨.slice none 0 0, none, 0, 0, rfl⟩) (fun v w w2 _ h2 h => Own8.chg h h2 (fun b e hb => by have := (World.ownsRow.lt h b e).1; omega)) (fun v w ob h => ⟨h.1.non ((Chg.refl _ w).alloc ob), h.2.non ((Chg.refl _ w).alloc ob)⟩) (fun w hC hG hS => settle_of (r2 := ?_) ?_ ?_) ?_
          rotate_left
          (first | (go_simp; done) | (go_simp; rfl))
          · refine settle_enter ((refBytes_any g2 R bad _ hS.2 (by omega)).mono ?_)
            rintro e w6 ⟨v6, rfl, hown, hcur6, hc6⟩
            rw [← Hz.out] at hown hcur6
            obtain ⟨A6, n6, c6, hv6, _⟩ := hown.open_
            exact ⟨v6, rfl, ⟨A6, n6, c6, hv6⟩, hc6.mono fun b e => .inr e, ⟨hS.1.side hS.2 hc6, hcur6⟩, own_mono hown hC.size⟩
          · rintro v ⟨A7, n7, c7, rfl⟩
            simp only [Act.put, List.setIfInBounds_toArray, List.set_cons_succ, List.set_cons_zero]
            refine st_plain (fun b => b = g ∨ b = g2) wr rfl rfl (f := .string ⟨z.1.toArray⟩) (by rfl) rfl rfl (fun w hC hG => ?_) ?_
            · obtain ⟨A, n, c, e, _, _, _, h⟩ := (show Own8 w wr.heap.size (.slice A7 n7 c7) z.1 from hG 4 rfl).open_
              cases e
              have q := run_string_rds Try.underlying23 Try.underlying5 Try.underlying9 h c7
              clear hG
              go_simp
            simp only [Act.put, List.setIfInBounds_toArray, List.set_cons_succ, List.set_cons_zero]
            repeat (first | (refine st_pass (by rfl) ?_; simp only [Act.put, List.setIfInBounds_toArray, List.set_cons_succ, List.set_cons_zero]) | (refine st_plain (fun b => b = g ∨ b = g2) (wr) rfl rfl (f := ?_) (by rfl) rfl rfl (fun w hC hG => ?_) ?_; rotate_left; (clear hG; first | (go_simp; done) | (go_simp; with_reducible rfl) | (simp [*, go_sem, ↓IntWalk.iteOmega]; done) | (simp [*, go_sem, ↓IntWalk.iteOmega]; with_reducible rfl)); simp only [Act.put, List.setIfInBounds_toArray, List.set_cons_succ, List.set_cons_zero]))
            refine st_end (fun b => b = g ∨ b = g2) wr rfl rfl (fun w6 hC6 hS6 hG => ?_)
            obtain ⟨hcur6, hcur62⟩ := (show Cur w6 g z.2.1 z.2.2 ∧ RCur w6 g2 z.2.1 z.2.2 from hS6)
            clear hG hS6
            have hC7 : Chg Non w w6 := hC.trans2 hC6 fun b e => .inr (by omega)
            have hfin2 := hcur62.fine
            obtain ⟨z1, R3, bad3⟩ := z
            simp only at *
            clear hC6 Hz hcur hcur2 hC hcellr hRl hfine
            have cb := hcur62.badCell
            obtain ⟨e, he, hE⟩ : ∃ e, Hid ((!bad3 && R3.isEmpty) = e) ∧ (bad3 = false → ((R3.length : Int) == 0) = e) := ⟨_, rfl, fun h => by subst h; simpa using lenEmpty R3 _ rfl⟩
            cases bad3
            · have hE2 := hE rfl
              clear hE
              cases e
              all_goals
                go_wp2_with fail
                go_quiet (first
                | (go_at_call 14; exact quietW (bad_any g _ _ _ (hcur6.drewN _)))
                | (go_at_call 15; exact quietW (left_any g _ _ _ (hcur6.drewN _)))
                | (go_at_call 17; exact quietW (end_at g _ _ _ he _ (hcur6.drewN _)))
                | (go_at_call 21; exact Calls.quiet_of (refLeft_any g2 _ _ _ (hcur62.drewN _))))
                go_wp2_with fail
                go_roundw
                case rel => exact ⟨k + 1, R3, false, by omega, by go_num, hcur6.drewN _, hcur62.drewN _, hl2, hC7.drewN _⟩
                case measure => simp [intOf]; omega
            · obtain rfl : e = false := he.out.symm
              clear hE
              go_wp2_with fail
              go_quiet (first
                | (go_at_call 14; exact quietW (bad_any g _ _ _ (hcur6.drewN _)))
                | (go_at_call 15; exact quietW (left_any g _ _ _ (hcur6.drewN _)))
                | (go_at_call 17; exact quietW (end_at g _ _ _ he _ (hcur6.drewN _)))
                | (go_at_call 21; exact Calls.quiet_of (refLeft_any g2 _ _ _ (hcur62.drewN _))))
              go_wp2_with fail
              go_roundw
              case rel => exact ⟨k + 1, R3, true, by omega, by go_num, hcur6.drewN _, hcur62.drewN _, hl2, hC7.drewN _⟩
              case measure => simp [intOf]; omega
      · have hl2 : (cInt R bad).2.1.length ≤ 2000 := Nat.le_trans (cInt_len R bad) hRl
        obtain ⟨z, Hz⟩ : ∃ z, Hid (z = cInt R bad) := ⟨_, rfl⟩
        rw [← Hz.out] at hl2
        go_wp2_with fail
        refine (int_any g R bad _ hcur).mono ?_
        rintro e w3 ⟨rfl, hcur3, hc3⟩
        have hcur23 := hcur2.side hcur hc3
        rw [← Hz.out] at hcur3 ⊢
        have hC3 : Chg Non w w3 := hC.trans2 hc3 fun b e => .inr (by omega)
        go_wp2_with fail
        refine (refCurInt_any g2 R bad _ hcur23).mono ?_
        rintro e w6 ⟨rfl, hcur62, hc6⟩
        have hcur6 := hcur3.side hcur23 hc6
        rw [← Hz.out] at hcur62 ⊢
        have hC7 : Chg Non w w6 := hC3.trans2 hc6 fun b e => .inr (by omega)
        have hfin2 := hcur62.fine
        obtain ⟨z1, R3, bad3⟩ := z
        simp only at *
        clear Hz hcur hcur2 hC hcellr hRl hfine hC3 hc3 hc6 hcur3 hcur23
        have cb := hcur62.badCell
        obtain ⟨e, he, hE⟩ : ∃ e, Hid ((!bad3 && R3.isEmpty) = e) ∧ (bad3 = false → ((R3.length : Int) == 0) = e) := ⟨_, rfl, fun h => by subst h; simpa using lenEmpty R3 _ rfl⟩
        cases bad3
        · have hE2 := hE rfl
          clear hE
          cases e
          all_goals
            go_wp2_with fail
            go_quiet (first
            | (go_at_call 14; exact quietW (bad_any g _ _ _ (hcur6.drewN _)))
            | (go_at_call 15; exact quietW (left_any g _ _ _ (hcur6.drewN _)))
            | (go_at_call 17; exact quietW (end_at g _ _ _ he _ (hcur6.drewN _)))
            | (go_at_call 21; exact Calls.quiet_of (refLeft_any g2 _ _ _ (hcur62.drewN _))))
            go_wp2_with fail
            go_roundw
            case rel => exact ⟨k + 1, R3, false, by omega, by go_num, hcur6.drewN _, hcur62.drewN _, hl2, hC7.drewN _⟩
            case measure => simp [intOf]; omega
        · obtain rfl : e = false := he.out.symm
          clear hE
          go_wp2_with fail
          go_quiet (first
            | (go_at_call 14; exact quietW (bad_any g _ _ _ (hcur6.drewN _)))
            | (go_at_call 15; exact quietW (left_any g _ _ _ (hcur6.drewN _)))
            | (go_at_call 17; exact quietW (end_at g _ _ _ he _ (hcur6.drewN _)))
            | (go_at_call 21; exact Calls.quiet_of (refLeft_any g2 _ _ _ (hcur62.drewN _))))
          go_wp2_with fail
          go_roundw
          case rel => exact ⟨k + 1, R3, true, by omega, by go_num, hcur6.drewN _, hcur62.drewN _, hl2, hC7.drewN _⟩
          case measure => simp [intOf]; omega
    · go_wp2_with fail
      go_ret
      exact ⟨rfl, hC⟩
theorem packReads_walk (w : World) (A : Option Addr) (n c : Nat) (e0 : Rd Try.prog w 23 (Value.slice A n c).cells.toList) (A2 : Option Addr) (m c2 : Nat) (e1 : Rd Try.prog w 38 (Value.slice A2 m c2).cells.toList) :
    Calls Try.prog 6 #[.slice A n c, .slice A2 m c2] w fun e w2 => e = .returned (.bool true) ∧ Chg Non w w2 := by
  obtain ⟨A', n', c', b, h1, h2, h3, h4⟩ := e0.bytes Try.underlying23 (by kernel_rfl) Try.underlying5
  obtain ⟨A2', n2', c2', l, g1, g2, g3, g4⟩ := e1.bools Try.underlying38 (by kernel_rfl) Try.underlying4
  simp only [Value.cells, List.cons.injEq, and_true, Value.slice.injEq] at h1 g1
  obtain ⟨rfl, rfl, rfl⟩ := h1
  obtain ⟨rfl, rfl, rfl⟩ := g1
  by_cases hn : n ≤ 2000 ∧ m ≤ 500
  · exact packReads_core w A n c h2 h3 b h4 A2 m c2 l g4 hn.1 hn.2
  · clear h4 g4 e0 e1
    have hn2 : 2000 < n ∨ 500 < m := by omega
    unfold maxLen at h3 g3
    clear hn
    rcases Nat.lt_or_ge 2000 n with h | h
    all_goals
      have h5 : 500 < m ∨ 2000 < n := by omega
      go_enter Try.func6, Try.ntmps6
      go_wp2_with fail
      refine (alive_any _).mono ?_
      rintro e w1 ⟨rfl, hc1⟩
      go_wp2_with fail
      go_ret
      exact ⟨rfl, hc1⟩
end Go.Proofs.Ytbjpnnpbhocffaa
