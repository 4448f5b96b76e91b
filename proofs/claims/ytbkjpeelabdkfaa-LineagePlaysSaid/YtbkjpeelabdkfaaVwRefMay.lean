/-
  gleanerref14.MayView: can a view be?
-/
import Derived.Test.YtbkjpeelabdkfaaVwPlain
import Derived.Test.YtbkjpeelabdkfaaVwRefHas
import Derived.Test.YtbkjpeelabdkfaaRegionM
namespace Go.Proofs.Ytbkjpeelabdkfaa
open Go.RowKit
set_option linter.unusedVariables false
set_option linter.unusedSimpArgs false

theorem addr_add0 (a : Addr) : a.add 0 = a := by cases a; rfl
theorem okFrom_len : ∀ {L : List Mb} {last : Int}, okFrom last L = true → last ≤ 15 → (L.length : Int) ≤ 15 - last
  | [], last, _, h => by simp; omega
  | m :: r, last, h, hl => by
    unfold okFrom nodeB at h
    simp only [Bool.and_eq_true, decide_eq_true_eq] at h
    have := okFrom_len h.2 (by omega)
    rw [List.length_cons]
    omega
theorem mayB_len {ep : Int} {L : List Mb} (h : mayB ep L = true) : L.length ≤ 16 := by
  unfold mayB at h
  simp only [Bool.and_eq_true] at h
  have := okFrom_len h.1.1 (by omega)
  omega
/-- What MayView asks of an element and the one ahead of it. -/
theorem may_cases (last : Int) (m : Mb) : (m.1 < 0) ∨ (0 ≤ m.1 ∧ 15 < m.1) ∨ (0 ≤ m.1 ∧ m.1 ≤ 15 ∧ m.2 < 1) ∨ (0 ≤ m.1 ∧ m.1 ≤ 15 ∧ 1 ≤ m.2 ∧ 2147483647 < m.2) ∨ (0 ≤ m.1 ∧ m.1 ≤ 15 ∧ 1 ≤ m.2 ∧ m.2 ≤ 2147483647) := by omega
theorem may_no {last : Int} {m : Mb} (h : (m.1 < 0) ∨ (0 ≤ m.1 ∧ 15 < m.1) ∨ (0 ≤ m.1 ∧ m.1 ≤ 15 ∧ m.2 < 1) ∨ (0 ≤ m.1 ∧ m.1 ≤ 15 ∧ 1 ≤ m.2 ∧ 2147483647 < m.2)) (b : Bool) : (decide (last < m.1) && nodeB m.1 && countB m.2 && b) = false := by
  unfold nodeB countB
  rcases h with h | h | h | h
  · rw [decide_eq_false (show ¬ 0 ≤ m.1 by omega)]; simp
  · rw [decide_eq_false (show ¬ m.1 < 16 by omega)]; simp
  · rw [decide_eq_false (show ¬ 1 ≤ m.2 by omega)]; simp
  · rw [decide_eq_false (show ¬ m.2 ≤ 2147483647 by omega)]; simp

set_option maxRecDepth 100000 in
set_option maxHeartbeats 4000000 in
theorem refMay_any (w : World) (ep : Int) (A : Option Addr) (n c : Nat) (L : List Mb) (h1 : Rds w 2 A n (mv L)) (hn : n ≤ 9223372036854775807) :
    Calls Try.prog 31 #[.agg #[.int .i64 ep, .slice A n c]] w fun e w2 => e = .returned (.bool (mayB ep L)) ∧ Chg Non w w2 := by
  obtain ⟨w1, hw1⟩ : ∃ w1, w.alloc (.cells #[.int .i64 ep, .slice A n c] 34) = w1 := ⟨_, rfl⟩
  have hC : Chg Non w w1 := hw1 ▸ (Chg.refl _ _).alloc _
  have hb : Blk w1 w.heap.size 34 #[.int .i64 ep, .slice A n c] := hw1 ▸ Blk.new _ _ _
  have H1 := Lib.hid (h1.non hC)
  have Hl := Lib.hid (mv_len h1)
  have c0 : w1.cell? ⟨w.heap.size, 0, none⟩ = some (.int .i64 ep) := hb.cell 0
  have c1 : w1.cell? ⟨w.heap.size, 1, none⟩ = some (.slice A n c) := hb.cell 1
  have bl := hb.lt
  have hw1s := hw1
  clear h1
  have hno : ∀ (P : Prop), (¬ P) → (mayB ep L = true → P) → mayB ep L = false := fun P h1 h2 => by
    cases h : mayB ep L with
    | false => rfl
    | true => exact absurd (h2 h) h1
  have hcase : (ep < 1 ∧ mayB ep L = false) ∨ (1 ≤ ep ∧ 2147483647 < ep ∧ mayB ep L = false) ∨ (1 ≤ ep ∧ ep ≤ 2147483647 ∧ n = 0 ∧ mayB ep L = false) ∨ (1 ≤ ep ∧ ep ≤ 2147483647 ∧ 0 < n ∧ 16 < n ∧ mayB ep L = false) ∨ (1 ≤ ep ∧ ep ≤ 2147483647 ∧ 0 < n ∧ n ≤ 16) := by
    have hcc := @may_count ep L
    have hll := @mayB_len ep L
    have hL := Hl.out
    by_cases h1 : ep < 1
    · exact .inl ⟨h1, hno _ (by omega) fun h => (hcc h).1⟩
    · by_cases h2 : 2147483647 < ep
      · exact .inr (.inl ⟨by omega, h2, hno _ (by omega) fun h => (hcc h).2⟩)
      · by_cases h3 : n = 0
        · refine .inr (.inr (.inl ⟨by omega, by omega, h3, ?_⟩))
          have : L = [] := List.eq_nil_of_length_eq_zero (by omega)
          subst this
          unfold mayB
          simp
        · by_cases h4 : 16 < n
          · exact .inr (.inr (.inr (.inl ⟨by omega, by omega, by omega, h4, hno _ (by omega) hll⟩)))
          · exact .inr (.inr (.inr (.inr ⟨by omega, by omega, by omega, by omega⟩)))
  rcases hcase with ⟨e1, hr⟩ | ⟨e1, e2, hr⟩ | ⟨e1, e2, e3, hr⟩ | ⟨e1, e2, e3, e4, hr⟩ | ⟨e1, e2, e3, e4⟩
  · have Hr := Lib.hid hr
    clear hr hno
    go_enter Try.func31, Try.ntmps31
    go_wp2_with fail
    go_ret
    exact ⟨by rw [Hr.out]; rfl, hC⟩
  · have Hr := Lib.hid hr
    clear hr hno
    go_enter Try.func31, Try.ntmps31
    go_wp2_with fail
    go_ret
    exact ⟨by rw [Hr.out]; rfl, hC⟩
  · have Hr := Lib.hid hr
    subst e3
    clear hr hno
    go_enter Try.func31, Try.ntmps31
    go_wp2_with fail
    go_ret
    exact ⟨by rw [Hr.out]; rfl, hC⟩
  · have Hr := Lib.hid hr
    have e5 : ((n : Int) == 0) = false := beq_eq_false_iff_ne.2 (by omega)
    clear hr hno
    go_enter Try.func31, Try.ntmps31
    go_wp2_with fail
    go_ret
    exact ⟨by rw [Hr.out]; rfl, hC⟩
  · have e5 : ((n : Int) == 0) = false := beq_eq_false_iff_ne.2 (by omega)
    have Hct : Hid (countB ep = true) := by unfold countB; rw [decide_eq_true e1, decide_eq_true e2]; rfl
    obtain ⟨ad, m0, rfl, hx0, hc00, _⟩ := H1.out.getM e3
    have z0 : w1.cell? (ad.add (0 * 2)) = some (.int .i64 m0.1) := hc00
    have z1 : w1.cell? ad = some (.int .i64 m0.1) := by simpa [Addr.add] using hc00
    have e6 : (0 : Int) < (n : Int) := by omega
    have zl := World.block_lt_of_cell? w1 _ z1
    by_cases hz : m0.1 = 0
    · have hm0 : Hid (∀ m, L[0]? = some m → m.1 = 0) := fun m h => by rw [hx0] at h; rw [← Option.some.inj h]; exact hz
      have e7 : (m0.1 != 0) = false := by rw [hz]; rfl
      clear hno hx0 hc00
      go_enter Try.func31, Try.ntmps31
      go_wp2_with fail
      clear hw1 hw1s
      go_loopw [3] (fun i wr => ∃ (k : Nat) (last : Int), k ≤ n ∧ i = .int .i64 k ∧ Hid (okFrom (-1) L = okFrom last (L.drop k)) ∧ Hid ((k = 0 ∧ last = -1) ∨ ∃ (j : Nat) (m' : Mb), k = j + 1 ∧ L[j]? = some m' ∧ last = m'.1) ∧ Chg Non w1 wr) (fun i _ => n - (intOf i).toNat)
      case atStart => exact ⟨0, -1, Nat.zero_le _, rfl, rfl, .inl ⟨rfl, rfl⟩, Chg.refl _ _⟩
      case round =>
        obtain ⟨k, last, hk, rfl, hok, hla, hC2⟩ := hrel
        have g1 := hC2.cell c1 id
        have gl := World.block_lt_of_cell? wr _ g1
        by_cases hlt : k < n
        · obtain ⟨ad2, m, e9, hx, hc0, hc1⟩ := H1.out.getM hlt
          obtain rfl := Option.some.inj e9
          have a0 := hC2.cell hc0 id
          have a1 := hC2.cell hc1 id
          have hst := okFrom_drop hx last
          have al := World.block_lt_of_cell? wr _ a0
          obtain ⟨w2, hw2⟩ : ∃ w9, wr.alloc (.cells #[.int .i64 m.1, .int .i64 m.2] 68) = w9 := ⟨_, rfl⟩
          have hc2 : Chg Non wr w2 := hw2 ▸ (Chg.refl _ _).alloc _
          have hb2 : Blk w2 wr.heap.size 68 #[.int .i64 m.1, .int .i64 m.2] := hw2 ▸ Blk.new _ _ _
          have hCx := hC2.non hc2
          have hCw := hC.non hCx
          have b0 := hb2.cell 0
          have b1 := hb2.cell 1
          simp only [List.getElem?_toArray, List.getElem?_cons_zero, List.getElem?_cons_succ] at b0 b1
          have v1 := hc2.cell g1 id
          have Hc9 := Lib.hid hc2
          clear hc0 hc1 z0 z1 zl c0 c1 hb2 hc2
          have hmay : ∀ b, okFrom last (L.drop k) = b → b = false → mayB ep L = false := fun b h1 h2 => by unfold mayB; rw [hok.out, h1, h2]; rfl
          rcases may_cases last m with h1 | ⟨h1, h2⟩ | ⟨h1, h2, h3⟩ | ⟨h1, h2, h3, h4⟩ | ⟨h1, h2, h3, h4⟩
          · as_aux_lemma =>
              have Hr := Lib.hid (hmay _ hst (may_no (.inl h1) _))
              have D1 : decide (m.1 < 0) = true := decide_eq_true (by omega)
              clear hst hx hok hla hmay Hc9
              go_wp2_with fail
              go_quiet (fail)
              go_wp2_with fail
              go_ret
              exact ⟨by rw [Hr.out]; rfl, hCw.drewN _⟩
          · as_aux_lemma =>
              have Hr := Lib.hid (hmay _ hst (may_no (.inr (.inl ⟨h1, h2⟩)) _))
              have D1 : decide (m.1 < 0) = false := decide_eq_false (by omega)
              have D2 : decide (15 < m.1) = true := decide_eq_true (by omega)
              clear hst hx hok hla hmay Hc9
              go_wp2_with fail
              go_quiet (fail)
              go_wp2_with fail
              go_ret
              exact ⟨by rw [Hr.out]; rfl, hCw.drewN _⟩
          · as_aux_lemma =>
              have Hr := Lib.hid (hmay _ hst (may_no (.inr (.inr (.inl ⟨h1, h2, h3⟩))) _))
              have D1 : decide (m.1 < 0) = false := decide_eq_false (by omega)
              have D2 : decide (15 < m.1) = false := decide_eq_false (by omega)
              have D3 : decide (m.2 < 1) = true := decide_eq_true (by omega)
              clear hst hx hok hla hmay Hc9
              go_wp2_with fail
              go_quiet (fail)
              go_wp2_with fail
              go_ret
              exact ⟨by rw [Hr.out]; rfl, hCw.drewN _⟩
          · as_aux_lemma =>
              have Hr := Lib.hid (hmay _ hst (may_no (.inr (.inr (.inr ⟨h1, h2, h3, h4⟩))) _))
              have D1 : decide (m.1 < 0) = false := decide_eq_false (by omega)
              have D2 : decide (15 < m.1) = false := decide_eq_false (by omega)
              have D3 : decide (m.2 < 1) = false := decide_eq_false (by omega)
              have D4 : decide (2147483647 < m.2) = true := decide_eq_true (by omega)
              clear hst hx hok hla hmay Hc9
              go_wp2_with fail
              go_quiet (fail)
              go_wp2_with fail
              go_ret
              exact ⟨by rw [Hr.out]; rfl, hCw.drewN _⟩
          · have hgo : okFrom last (L.drop k) = (decide (last < m.1) && okFrom m.1 (L.drop (k + 1))) := by
              rw [hst]
              unfold nodeB countB
              rw [decide_eq_true h1, decide_eq_true (show m.1 < 16 by omega), decide_eq_true h3, decide_eq_true h4]
              simp
            rcases hla.out with ⟨hk0, hl0⟩ | ⟨j, m', rfl, hj, rfl⟩
            · subst hk0
              as_aux_lemma =>
                have hst2 : Hid (okFrom (-1) L = okFrom m.1 (L.drop (0 + 1))) := by
                  show _ = _
                  rw [hok.out, hgo, decide_eq_true (by omega)]
                  rfl
                have Hx := Lib.hid hx
                rw [Nat.zero_mul, addr_add0] at a0 a1
                have D1 : decide (m.1 < 0) = false := decide_eq_false (by omega)
                have D2 : decide (15 < m.1) = false := decide_eq_false (by omega)
                have D3 : decide (m.2 < 1) = false := decide_eq_false (by omega)
                have D4 : decide (2147483647 < m.2) = false := decide_eq_false (by omega)
                clear hst hx hok hla hmay hgo Hc9
                go_wp2_with fail
                go_quiet (fail)
                go_wp2_with fail
                go_roundw
                case rel => exact ⟨0 + 1, m.1, by omega, by go_num, hst2, .inr ⟨0, m, rfl, Hx.out, rfl⟩, hCx.drewN _⟩
                case measure => simp [intOf]; omega
            · obtain ⟨ad3, m3, e9, hx3, hc3, _⟩ := H1.out.getM (k := j) (by omega)
              obtain rfl := Option.some.inj e9
              obtain rfl : m' = m3 := by rw [hj] at hx3; exact Option.some.inj hx3
              have p0 := Hc9.out.cell (hC2.cell hc3 id) id
              have hsub : IntKind.i64.wrap (((j + 1 : Nat) : Int) - 1) = (j : Int) := by rw [IntKind.wrap_i64]; omega
              by_cases hlt6 : m'.1 < m.1
              · as_aux_lemma =>
                  have D6 : decide (m.1 ≤ m'.1) = false := decide_eq_false (by omega)
                  have hst2 : Hid (okFrom (-1) L = okFrom m.1 (L.drop (j + 1 + 1))) := by
                    show _ = _
                    rw [hok.out, hgo, decide_eq_true hlt6]
                    rfl
                  have Hx := Lib.hid hx
                  have D1 : decide (m.1 < 0) = false := decide_eq_false (by omega)
                  have D2 : decide (15 < m.1) = false := decide_eq_false (by omega)
                  have D3 : decide (m.2 < 1) = false := decide_eq_false (by omega)
                  have D4 : decide (2147483647 < m.2) = false := decide_eq_false (by omega)
                  clear hst hx hok hla hmay hgo hj hc3 hx3 Hc9
                  go_wp2_with fail
                  go_quiet (fail)
                  go_wp2_with fail
                  go_roundw
                  case rel => exact ⟨j + 1 + 1, m.1, by omega, by go_num, hst2, .inr ⟨j + 1, m, rfl, Hx.out, rfl⟩, hCx.drewN _⟩
                  case measure => simp [intOf]; omega
              · as_aux_lemma =>
                  have D6 : decide (m.1 ≤ m'.1) = true := decide_eq_true (by omega)
                  have Hr : Hid (mayB ep L = false) := hmay _ hgo (by rw [decide_eq_false hlt6]; rfl)
                  have D1 : decide (m.1 < 0) = false := decide_eq_false (by omega)
                  have D2 : decide (15 < m.1) = false := decide_eq_false (by omega)
                  have D3 : decide (m.2 < 1) = false := decide_eq_false (by omega)
                  have D4 : decide (2147483647 < m.2) = false := decide_eq_false (by omega)
                  clear hst hx hok hla hmay hgo hj hc3 hx3 Hc9
                  go_wp2_with fail
                  go_quiet (fail)
                  go_wp2_with fail
                  go_ret
                  exact ⟨by rw [Hr.out]; rfl, hCw.drewN _⟩
        · have Hr : Hid (mayB ep L = true) := by
            show _ = _
            have h9 := hok.out
            rw [List.drop_eq_nil_of_le (by have := Hl.out; omega)] at h9
            unfold mayB
            rw [h9, Hct.out]
            cases L with
            | nil => have := Hl.out; simp at this; omega
            | cons m r => have := hm0.out m rfl; simp [okFrom, this]
          clear z0 z1 zl c0 c1
          go_wp2_with fail
          go_ret
          exact ⟨by rw [Hr.out]; rfl, hC.non hC2⟩
    · have Hr : Hid (mayB ep L = false) := hno (m0.1 = 0) hz fun h => by
        unfold mayB at h
        cases L with
        | nil => simp at hx0
        | cons m r =>
          simp at hx0
          subst hx0
          simp at h
          exact h.2
      have e7 : (m0.1 != 0) = true := bne_iff_ne.2 hz
      clear hno hx0 hc00 hz
      go_enter Try.func31, Try.ntmps31
      go_wp2_with fail
      go_ret
      exact ⟨by rw [Hr.out]; rfl, hC⟩
end Go.Proofs.Ytbkjpeelabdkfaa

