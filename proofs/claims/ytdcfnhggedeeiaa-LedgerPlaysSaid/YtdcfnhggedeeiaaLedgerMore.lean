/-
  ledger.Trace, ledger.Get; the example of the document.
-/
import Derived.Test.YtdcfnhggedeeiaaLedger
namespace Go.Proofs.Ytdcfnhggedeeiaa
open Go.RowKit
set_option linter.unusedVariables false
set_option linter.unusedSimpArgs false

theorem cloneC_any (A : Option Addr) (n c : Nat) (xs : List Value) (w : World) (hr : Rds w (rkC).size A n xs) (h1 : ∀ u ∈ xs, u.oneCell' = true) (hn : n ≤ 1099511627776) :
    Calls Try.prog 23 #[.slice A n c] w fun e w2 => ∃ v, e = .returned v ∧ OwnR rkC w2 w.heap.size v n xs ∧ Chg Non w w2 := by
  have q : ∀ (w : World) (a : Option Addr) (n c : Nat), (binOp .eql 26 (.slice a n c) (.slice none 0 0)).run Try.prog w = .ok (.bool a.isNone) w := fun w a n c => Lib.run_eql_slice_nil w _ _ a n c 0 0 Try.underlying26
  cases A with
  | none =>
    have h0 : n = 0 := by
      rcases Nat.eq_zero_or_pos n with h0 | h0
      · exact h0
      · obtain ⟨_, h, _⟩ := hr.2 h0; cases h
    subst h0
    have hx : xs = [] := List.eq_nil_of_length_eq_zero (by have := hr.1; omega)
    subst hx
    go_enter Try.func23, Try.ntmps23
    go_wp2_with fail
    go_ret
    exact ⟨_, rfl, OwnR.nil _ _ _, Chg.refl _ _⟩
  | some ad =>
    have hown : OwnR rkC (w.alloc (.cells #[] (rkC).e)) w.heap.size (.slice (some ⟨w.heap.size, 0, none⟩) 0 0) 0 [] := World.ownsRow_made w #[] 0 (Nat.le_refl _) (by unfold maxLen; omega) rfl
    have hr2 := hr.non ((Chg.refl _ w).alloc (.cells #[] (rkC).e))
    go_enter Try.func23, Try.ntmps23
    go_wp2_with (at_builtin; refine appR (K := rkC) rfl (.tmp 5) (.tmp 6) rfl hown rfl hr2 rfl h1 ?_ ?_ ?_; rotate_right; intro v2 w2 h2 h3 h4)
    · go_ret
      exact ⟨_, rfl, by simpa using h2, OwnR.chgApp hown ((Chg.refl _ w).alloc _) (Nat.le_refl _) h3⟩
    all_goals (first | omega | (simp; done))

theorem ledTrace_any (w : World) (F : Nat → Prop) (g mw : Nat) (T : List Cm) (h : Led w F g mw T) (hT : T.length ≤ 1000000) :
    Calls Try.prog 10 #[.pointer (some ⟨g, 0, none⟩)] w fun e w2 => ∃ v, e = .returned v ∧ OwnR rkC w2 w.heap.size v T.length (cv T) ∧ Chg Non w w2 := by
  obtain ⟨⟨A, c, m1, hb, ho, _⟩, _⟩ := h
  have c0 := hb.cell 0
  simp only [List.getElem?_toArray, List.getElem?_cons_zero] at c0
  have hr := ho.rds
  clear hb ho
  go_enter Try.func10, Try.ntmps10
  go_wp2_with fail
  refine (cloneC_any A _ c _ _ hr (cv_one T) (by omega)).mono ?_
  rintro e w2 ⟨v, rfl, h2, hc⟩
  obtain ⟨A2, c2, rfl, _⟩ := h2.open_
  go_wp2_with fail
  go_ret
  exact ⟨_, rfl, h2, hc⟩

theorem ledGet_none (w : World) (F : Nat → Prop) (g mw : Nat) (T : List Cm) (id : ByteArray) (h : Led w F g mw T) (hid : id.size ≤ maxLen) (hno : atI T id = none) :
    Calls Try.prog 16 #[.pointer (some ⟨g, 0, none⟩), .string id] w fun e w2 => e = .returned (.tuple #[.agg #[.int .i64 0, .int .i64 0], .bool false]) ∧ Chg Non w w2 := by
  obtain ⟨⟨A, c, m1, hb, ho, hm, _⟩, _⟩ := h
  have hk : atF T id = none := by unfold atF; rw [hno]; rfl
  have c1 := hb.cell 1
  simp only [List.getElem?_toArray, List.getElem?_cons_zero, List.getElem?_cons_succ] at c1
  have hg := hb.lt
  have q1 := (hm.alloc (.cells #[.int .i64 0, .int .i64 0] 31)).look_okS Try.underlying37 (z := .int .i64 0) (by kernel_rfl) hid hk
  clear hb ho hm hk hno
  go_enter Try.func16, Try.ntmps16
  go_wp2_with fail
  exact bodyPost_ret (v := .tuple #[.agg #[.int .i64 0, .int .i64 0], .bool false]) (by simp [results, Try.results16, go_sem]) rfl ⟨rfl, (Chg.refl _ _).alloc _⟩

theorem ledGet_some (w : World) (F : Nat → Prop) (g mw : Nat) (T : List Cm) (id : ByteArray) (x y : Int) (k : Nat) (h : Led w F g mw T) (hid : id.size ≤ maxLen) (hk0 : atI T id = some k) (hx : T[k]? = some (id, x, y)) :
    Calls Try.prog 16 #[.pointer (some ⟨g, 0, none⟩), .string id] w fun e w2 => e = .returned (.tuple #[.agg #[.int .i64 x, .int .i64 y], .bool true]) ∧ Chg Non w w2 := by
  obtain ⟨⟨A, c, m1, hb, ho, hm, _⟩, _⟩ := h
  have hk : atF T id = some (.int .i64 k) := by unfold atF; rw [hk0]; rfl
  have hkl : k < T.length := (List.getElem?_eq_some_iff.1 hx).1
  have hC : Chg Non w (w.alloc (.cells #[.int .i64 0, .int .i64 0] 31)) := (Chg.refl _ _).alloc _
  have c0 := hb.cell 0
  have c1 := hb.cell 1
  simp only [List.getElem?_toArray, List.getElem?_cons_zero, List.getElem?_cons_succ] at c0 c1
  have hg := hb.lt
  have q1 := (hm.alloc (.cells #[.int .i64 0, .int .i64 0] 31)).look_okS Try.underlying37 (z := .int .i64 0) (by kernel_rfl) hid hk
  obtain ⟨ad, c2, rfl, hx2, h0, h1⟩ := (ho.non hC).rds.getN cellC_len (by decide) hkl
  obtain rfl : c2 = (id, x, y) := by rw [hx] at hx2; exact (Option.some.inj hx2).symm
  have a1 : (w.alloc (.cells #[.int .i64 0, .int .i64 0] 31)).cell? ⟨(ad.add (k * 3)).block, (ad.add (k * 3)).off + 1, none⟩ = some (.int .i64 x) := h1 0 _ rfl
  have a2 : (w.alloc (.cells #[.int .i64 0, .int .i64 0] 31)).cell? ⟨(ad.add (k * 3)).block, (ad.add (k * 3)).off + 2, none⟩ = some (.int .i64 y) := h1 1 _ rfl
  have b1 : w.cell? ⟨(ad.add (k * 3)).block, (ad.add (k * 3)).off + 1, none⟩ = some (.int .i64 x) := by
    obtain ⟨ad3, c3, e3, hx3, g0, g1⟩ := ho.rds.getN cellC_len (by decide) hkl
    cases e3
    obtain rfl : c3 = (id, x, y) := by rw [hx] at hx3; exact (Option.some.inj hx3).symm
    exact g1 0 _ rfl
  have b2 : w.cell? ⟨(ad.add (k * 3)).block, (ad.add (k * 3)).off + 2, none⟩ = some (.int .i64 y) := by
    obtain ⟨ad3, c3, e3, hx3, g0, g1⟩ := ho.rds.getN cellC_len (by decide) hkl
    cases e3
    obtain rfl : c3 = (id, x, y) := by rw [hx] at hx3; exact (Option.some.inj hx3).symm
    exact g1 1 _ rfl
  have hlt := World.block_lt_of_cell? w _ b1
  have hkI : (0 : Int) ≤ (k : Int) := by omega
  have hkI2 : (k : Int) < T.length := by omega
  clear hb ho hm hk hk0 hx hx2 h0 h1
  go_enter Try.func16, Try.ntmps16
  go_wp2_with fail
  exact bodyPost_ret (v := .tuple #[.agg #[.int .i64 x, .int .i64 y], .bool true]) (by simp [results, Try.results16, go_sem]) rfl ⟨rfl, (Chg.refl _ _).alloc _⟩

theorem vid_nil : vid ⟨#[]⟩ = true := by decide
set_option maxRecDepth 100000 in
set_option maxHeartbeats 400000 in
theorem led_alive (w : World) : Calls Try.prog 6 #[] w fun e w2 => e = .returned (.bool true) ∧ Chg Non w w2 := by
  go_enter Try.func6, Try.ntmps6
  go_wp2_with fail
  refine (ledNew_any _).mono ?_
  rintro e w1 ⟨g, mw, rfl, hL, _, _, _, hc1⟩
  go_wp2_with fail
  refine (ledCommit_yes _ _ g mw [] ⟨#[]⟩ 0 5 hL vid_nil rfl (by simp)).mono ?_
  rintro e w2 ⟨rfl, F2, hL2, hF2, hc2⟩
  have hC2 : Chg Non w w2 := hc1.trans2 hc2 (fun b e => .inr e.1)
  clear hc1 hc2 hL
  go_wp2_with fail
  refine (ledCommit_no _ F2 g mw _ ⟨#[]⟩ 0 6 hL2 (by decide) (.inr ⟨0, by decide⟩)).mono ?_
  rintro e w3 ⟨rfl, hc3⟩
  have hL3 := hL2.non hc3
  have hC3 := hC2.non hc3
  clear hL2 hc3 hC2
  go_wp2_with fail
  refine (ledGet_some _ F2 g mw _ ⟨#[]⟩ 0 5 0 hL3 (by decide) (by decide) rfl).mono ?_
  rintro e w4 ⟨rfl, hc4⟩
  have hC4 := hC3.non hc4
  clear hL3 hc4 hC3 hF2
  go_wp2_with fail
  go_ret
  exact ⟨rfl, hC4.alloc _⟩
end Go.Proofs.Ytdcfnhggedeeiaa
