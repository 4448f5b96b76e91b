/-
  victim.Picker: Next, Found, Asked.
-/
import Derived.Test.YtiokijldnnkeiaaVictim
import Derived.BigQuiet
import Derived.Deep.QuietTactic
namespace Go.Proofs.Ytiokijldnnkeiaa
open Go.RowKit
set_option linter.unusedVariables false
set_option linter.unusedSimpArgs false

/-- A picker where it lies, its row told. -/
def PkV (w : World) (base g : Nat) (p : Pk) (A : Option Addr) (n c : Nat) : Prop :=
  Blk w g 40 #[.int .i64 p.st, .int .i64 p.nodes, .int .i64 p.self, .int .i64 p.tries, .int .i64 p.nxt, .slice A n c] ∧ OwnR rkN w base (.slice A n c) n (iv p.lines) ∧ p.ok ∧ base ≤ g
def NextPostV (w : World) (base g : Nat) (p : Pk) (A : Option Addr) (n c : Nat) (e : Ending) (w2 : World) : Prop := e = .returned (.int .i64 p.next.1) ∧ PkV w2 base g p.next.2 A n c ∧ Chg (fun b => b = g) w w2
def NextPost (w : World) (base g : Nat) (p : Pk) (e : Ending) (w2 : World) : Prop := e = .returned (.int .i64 p.next.1) ∧ PkAt w2 base g p.next.2 ∧ Chg (fun b => b = g) w w2
theorem pick_lt {p : Pk} (h : drawN p.st (p.nodes - 1) < p.self) : p.pick = drawN p.st (p.nodes - 1) := if_pos h
theorem pick_ge {p : Pk} (h : ¬ drawN p.st (p.nodes - 1) < p.self) : p.pick = drawN p.st (p.nodes - 1) + 1 := if_neg h

set_option maxRecDepth 100000 in
set_option maxHeartbeats 4000000 in
theorem next_anyV (w : World) (base g : Nat) (p : Pk) (A : Option Addr) (n c : Nat) (h : PkV w base g p A n c) (hx : p.nxt ≤ 1000000000) :
    Calls Try.prog 8 #[.pointer (some ⟨g, 0, none⟩)] w (NextPostV w base g p A n c) := by
  obtain ⟨hb, hown, hok, hbg⟩ := h
  obtain ⟨k0, k1, k2, k3, k4, k5, k6, k7⟩ := hok
  have hnl : n = p.lines.length := by have := hown.rds.lenMap (f := fun n : Int => .int .i64 n); exact this
  obtain ⟨hnc, hcm⟩ : n ≤ c ∧ c ≤ maxLen := by obtain ⟨A9, c9, e, h1, h2, _⟩ := hown.open_; cases e; exact ⟨h1, h2⟩
  have Hnl := Lib.hid hnl
  have hn12 : n ≤ 12 := by omega
  have x1 := hb.cell 1
  have x2 := hb.cell 2
  have x3 := hb.cell 3
  have x4 := hb.cell 4
  have x5 := hb.cell 5
  have f4 := hb.frozen 4
  simp only [List.getElem?_toArray, List.getElem?_cons_zero, List.getElem?_cons_succ] at x1 x2 x3 x4 x5
  have Hk7 := Lib.hid k7
  clear hnl k7
  by_cases hA : p.nxt < p.tries
  · obtain ⟨v1, v2, v3, v4⟩ := okP_iff.1 (k5 (by omega))
    have Hnx : Hid (p.next = (p.pick, { p with st := drawS p.st, nxt := p.nxt + 1 })) := by show _ = _; unfold Pk.next; rw [if_pos hA]
    have hk3 : p.nxt + 1 ≤ 9223372036854775807 := by omega
    go_enter Try.func8, Try.ntmps8
    go_wp2_with fail
    go_quiet (fail)
    go_wp2_with fail
    have hba : Blk ((w.drewN nq).setCell ⟨g, 4, none⟩ (.int .i64 (p.nxt + 1))) g 40 #[.int .i64 p.st, .int .i64 p.nodes, .int .i64 p.self, .int .i64 p.tries, .int .i64 (p.nxt + 1), .slice A n c] := (hb.drewN nq).put 4 _
    have hCa : Chg (fun b => b = g) w ((w.drewN nq).setCell ⟨g, 4, none⟩ (.int .i64 (p.nxt + 1))) := ((Chg.refl _ _).drewN nq).set1 4 _
    obtain ⟨wa, ea⟩ : ∃ wa, (w.drewN nq).setCell ⟨g, 4, none⟩ (.int .i64 (p.nxt + 1)) = wa := ⟨_, rfl⟩
    rw [ea] at hba hCa ⊢
    clear ea x1 x2 x3 x4 x5 f4
    have q1 : ∀ w2, Chg Non wa w2 → w2.cell? ⟨g, 1, none⟩ = some (.int .i64 p.nodes) := fun w2 h2 => h2.cell (hba.cell 1) id
    refine st_region_tail 8 8 Non [] [] (fun _ _ _ _ => True) (fun _ _ _ _ => True) (fun _ _ _ => True) (fun _ => True) (by kernel_rfl) (by kernel_rfl) (by kernel_rfl) (fun _ h => h.elim) trivial (fun _ _ _ => trivial) ?_
    repeat (first | (refine st_pass (by rfl) ?_; simp only [Act.put, List.setIfInBounds_toArray, List.set_cons_succ, List.set_cons_zero]) | (refine st_plain (Non) (wa) rfl rfl (f := ?_) (by rfl) rfl rfl (fun w hC hG => ?_) ?_; rotate_left; (clear hG; first | (go_simp; done) | (go_simp; with_reducible rfl) | (simp [*, go_sem, ↓IntWalk.iteOmega]; done) | (simp [*, go_sem, ↓IntWalk.iteOmega]; with_reducible rfl)); simp only [Act.put, List.setIfInBounds_toArray, List.set_cons_succ, List.set_cons_zero]))
    refine st_tail Non wa rfl rfl rfl (fun w5 hC5 _ _ => ?_)
    simp only [List.drop_succ_cons, List.drop_zero]
    have hb5 := hba.non hC5
    have hC6 := hCa.non hC5
    clear q1 hba hCa hC5
    go_wp2_with fail
    refine (draw_any w5 g _ p.st (p.nodes - 1) _ hb5 k0 k1 (by omega)).mono ?_
    rintro e w6 ⟨rfl, hw6⟩
    have hb6 := hb5.put 0 (.int .i64 (drawS p.st))
    simp only [List.setIfInBounds_toArray, List.set_cons_zero] at hb6
    have hC7 := hC6.set1 0 (.int .i64 (drawS p.st))
    rw [← hw6] at hb6 hC7
    clear hw6 hb5 hC6
    have x2 := hb6.cell 2
    simp only [List.getElem?_toArray, List.getElem?_cons_zero, List.getElem?_cons_succ] at x2
    have hown6 := hown.chg hC7 (fun b hb2 e => hown.apart hb (by decide) (by rw [hb2, show b = g from e]))
    have hdn : 0 ≤ drawN p.st (p.nodes - 1) ∧ drawN p.st (p.nodes - 1) < p.nodes - 1 := by
      unfold drawN
      exact ⟨Int.emod_nonneg _ (by omega), Int.emod_lt_of_pos _ (by omega)⟩
    obtain ⟨hd1, hd2⟩ := hdn
    have hpl := Lib.hid (pick_lt (p := p))
    have hpg := Lib.hid (pick_ge (p := p))
    have hds := drawS_bd p.st
    have hpk : PkV w6 base g p.next.2 A n c := by
      rw [Hnx.out]
      exact ⟨hb6, hown6, ⟨hds.1, hds.2, k2, k3, by show 0 ≤ p.nxt + 1; omega, k5, k6, Hk7.out⟩, hbg⟩
    have Hpk := Lib.hid hpk
    obtain ⟨d, hd⟩ : ∃ d, drawN p.st (p.nodes - 1) = d := ⟨_, rfl⟩
    rw [hd] at hd1 hd2 ⊢
    have Hd := Lib.hid hd
    clear hd hpk hds hb6 hown6
    by_cases hlt : d < p.self
    · go_wp2_with fail
      go_ret
      exact ⟨by rw [Hnx.out]; show _ = Ending.returned (.int .i64 p.pick); rw [hpl.out (by rw [Hd.out]; exact hlt), Hd.out]; rfl, Hpk.out, hC7⟩
    · go_wp2_with fail
      go_ret
      exact ⟨by rw [Hnx.out]; show _ = Ending.returned (.int .i64 p.pick); rw [hpg.out (by rw [Hd.out]; exact hlt), Hd.out]; rfl, Hpk.out, hC7⟩
  · by_cases hB : p.nxt - p.tries < p.lines.length
    · have Hnx : Hid (p.next = ((p.lines[(p.nxt - p.tries).toNat]?).getD 0, { p with nxt := p.nxt + 1 })) := by show _ = _; unfold Pk.next; rw [if_neg hA, if_pos hB]
      obtain ⟨j, hj⟩ : ∃ j : Nat, p.nxt = p.tries + j := ⟨(p.nxt - p.tries).toNat, by omega⟩
      have hjn : j < n := by have := Hnl.out; omega
      obtain ⟨ad, y, rfl, hy, hcell⟩ := hown.rds.getI hjn
      have hcb : ad.block ≠ g := fun e => hown.apart hb (by decide) (show (Value.slice (some ad) n c).ownBlock = some g by
        rcases hown.2 with ⟨h0, _⟩ | ⟨g2, cap, cur, hv, _⟩
        · cases h0
        · cases hv; exact congrArg some e)
      have i1 : IntKind.i64.wrap (p.nxt - p.tries) = j := by rw [IntKind.wrap_i64]; omega
      have i2 : IntKind.i64.wrap (p.nxt + 1 - p.tries) = j + 1 := by rw [IntKind.wrap_i64]; omega
      have i3 : IntKind.i64.wrap ((j : Int) + 1 - 1) = j := by rw [IntKind.wrap_i64]; omega
      have t1 : decide (p.nxt < p.tries) = false := decide_eq_false hA
      have Hj := Lib.hid hj
      have Hy := Lib.hid hy
      clear hj hy hB
      go_enter Try.func8, Try.ntmps8
      go_wp2_with fail
      go_quiet (fail)
      go_wp2_with fail
      have hb1 := hb.drewN nq
      have hC1 : Chg (fun b => b = g) w (w.drewN nq) := (Chg.refl _ _).drewN nq
      obtain ⟨w1, e1⟩ : ∃ w1, w.drewN nq = w1 := ⟨_, rfl⟩
      rw [e1] at hb1 hC1 ⊢
      clear e1 x1 x2 x3 x4 x5 f4 t1
      have x3 := hb1.cell 3
      have x4 := hb1.cell 4
      have x5 := hb1.cell 5
      have f4 := hb1.frozen 4
      simp only [List.getElem?_toArray, List.getElem?_cons_zero, List.getElem?_cons_succ] at x3 x4 x5
      go_quiet (fail)
      go_wp2_with fail
      have hb2 := (hb1.drewN nq).put 4 (.int .i64 (p.nxt + 1))
      simp only [List.setIfInBounds_toArray, List.set_cons_succ, List.set_cons_zero] at hb2
      have hC2 := (hC1.drewN nq).set1 4 (.int .i64 (p.nxt + 1))
      obtain ⟨w2, e2⟩ : ∃ w2, (w1.drewN nq).setCell ⟨g, 4, none⟩ (.int .i64 (p.nxt + 1)) = w2 := ⟨_, rfl⟩
      rw [e2] at hb2 hC2 ⊢
      clear e2 x3 x4 x5 f4 hb1 hC1
      have x3 := hb2.cell 3
      have x4 := hb2.cell 4
      have x5 := hb2.cell 5
      simp only [List.getElem?_toArray, List.getElem?_cons_zero, List.getElem?_cons_succ] at x3 x4 x5
      have hc2 := hC2.cell hcell (by rw [block_add]; exact hcb)
      have hown2 := hown.chg hC2 (fun b hb9 e => hown.apart hb (by decide) (by rw [hb9, show b = g from e]))
      clear hcell
      go_quiet (fail)
      go_wp2_with fail
      go_ret
      refine ⟨?_, ?_, hC2.drewN _⟩
      · rw [Hnx.out]
        show _ = Ending.returned (.int .i64 ((p.lines[(p.nxt - p.tries).toNat]?).getD 0))
        rw [show (p.nxt - p.tries).toNat = j from by have := Hj.out; omega, Hy.out]
        rfl
      · rw [Hnx.out]
        exact ⟨hb2.drewN _, hown2.drewN _, ⟨k0, k1, k2, k3, by show 0 ≤ p.nxt + 1; omega, k5, k6, Hk7.out⟩, hbg⟩
    · have Hnx : Hid (p.next = (-1, p)) := by show _ = _; unfold Pk.next; rw [if_neg hA, if_neg hB]
      obtain ⟨j, hj⟩ : ∃ j : Nat, p.nxt = p.tries + j := ⟨(p.nxt - p.tries).toNat, by omega⟩
      have hjn : n ≤ j := by have := Hnl.out; omega
      have i1 : IntKind.i64.wrap (p.nxt - p.tries) = j := by rw [IntKind.wrap_i64]; omega
      have t1 : decide (p.nxt < p.tries) = false := decide_eq_false hA
      clear hj hB
      go_enter Try.func8, Try.ntmps8
      go_wp2_with fail
      go_quiet (fail)
      go_wp2_with fail
      have hb1 := hb.drewN nq
      have hC1 : Chg (fun b => b = g) w (w.drewN nq) := (Chg.refl _ _).drewN nq
      have hown1 := hown.drewN nq
      obtain ⟨w1, e1⟩ : ∃ w1, w.drewN nq = w1 := ⟨_, rfl⟩
      rw [e1] at hb1 hC1 hown1 ⊢
      clear e1 x1 x2 x3 x4 x5 f4 t1
      have x3 := hb1.cell 3
      have x4 := hb1.cell 4
      have x5 := hb1.cell 5
      simp only [List.getElem?_toArray, List.getElem?_cons_zero, List.getElem?_cons_succ] at x3 x4 x5
      go_quiet (fail)
      go_wp2_with fail
      go_ret
      refine ⟨?_, ?_, hC1.drewN _⟩
      · rw [Hnx.out]; rfl
      · rw [Hnx.out]
        exact ⟨hb1.drewN _, hown1.drewN _, ⟨k0, k1, k2, k3, k4, k5, k6, Hk7.out⟩, hbg⟩

theorem next_any (w : World) (base g : Nat) (p : Pk) (h : PkAt w base g p) (hx : p.nxt ≤ 1000000000) :
    Calls Try.prog 8 #[.pointer (some ⟨g, 0, none⟩)] w (NextPost w base g p) := by
  obtain ⟨A, n, c, h⟩ := h
  refine (next_anyV w base g p A n c h hx).mono ?_
  rintro e w2 ⟨h1, h2, h3⟩
  exact ⟨h1, ⟨A, n, c, h2⟩, h3⟩
theorem found_any (w : World) (base g : Nat) (p : Pk) (h : PkAt w base g p) :
    Calls Try.prog 12 #[.pointer (some ⟨g, 0, none⟩)] w fun e w2 => e = .returned (.tuple #[]) ∧ PkAt w2 base g { p with nxt := 0 } ∧ Chg (fun b => b = g) w w2 := by
  obtain ⟨A, n, c, hb, hown, hok, hbg⟩ := h
  have x4 := hb.cell 4
  have f4 := hb.frozen 4
  simp only [List.getElem?_toArray, List.getElem?_cons_zero, List.getElem?_cons_succ] at x4
  have hb2 := hb.put 4 (.int .i64 0)
  simp only [List.setIfInBounds_toArray, List.set_cons_succ, List.set_cons_zero] at hb2
  have hS : Chg (fun b => b = g) w (w.setCell ⟨g, 4, none⟩ (.int .i64 0)) := (Chg.refl _ _).set1 4 _
  have hown2 := hown.chg hS (fun b hb9 e => hown.apart hb (by decide) (by rw [hb9, show b = g from e]))
  have hfin := Lib.hid (show PkAt (w.setCell ⟨g, 4, none⟩ (.int .i64 0)) base g { p with nxt := 0 } from ⟨A, n, c, hb2, hown2, ⟨hok.s0, hok.s1, hok.t0, hok.t1, Int.le_refl _, hok.v, hok.l, hok.x⟩, hbg⟩)
  clear hb2 hown2 hown hok
  go_enter Try.func12, Try.ntmps12
  go_wp2_with fail
  go_end0
  exact ⟨rfl, hfin.out, hS⟩
theorem asked_any (w : World) (base g : Nat) (p : Pk) (h : PkAt w base g p) :
    Calls Try.prog 11 #[.pointer (some ⟨g, 0, none⟩)] w fun e w2 => e = .returned (.int .i64 p.nxt) ∧ w = w2 := by
  obtain ⟨A, n, c, hb, _⟩ := h
  have x4 := hb.cell 4
  simp only [List.getElem?_toArray, List.getElem?_cons_zero, List.getElem?_cons_succ] at x4
  go_enter Try.func11, Try.ntmps11
  go_wp2_with fail
  go_ret
  exact ⟨rfl, rfl⟩
end Go.Proofs.Ytiokijldnnkeiaa
