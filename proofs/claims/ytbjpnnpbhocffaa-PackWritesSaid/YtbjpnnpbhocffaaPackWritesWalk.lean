/-
  gleanerlaw1.PackWrites: the walk.
-/
import Derived.Test.YtbjpnnpbhocffaaAlive
import Derived.Test.YtbjpnnpbhocffaaReader
import Derived.Test.YtbjpnnpbhocffaaBytes
import Derived.Test.YtbjpnnpbhocffaaRefInt
import Derived.Test.YtbjpnnpbhocffaaSteps
namespace Go.Proofs.Ytbjpnnpbhocffaa
open Go.RowKit

theorem len_snoc {n n4 : Nat} {b : List UInt8} {x : UInt8} (h : Hid (n4 = (b ++ [x]).length)) (h2 : Hid (n = b.length)) : Hid (n4 = n + 1) := by
  have h3 := h.out
  have h4 := h2.out
  show n4 = n + 1
  simp at h3; omega

set_option linter.unusedVariables false
set_option maxRecDepth 100000 in
set_option maxHeartbeats 400000 in
theorem packWrites_core (w : World) (A : Option Addr) (n c : Nat) (b : List UInt8) (hc : n ≤ c) (hr : Rds w 1 A n (bv b)) (A2 : Option Addr) (m c2 : Nat) (l : List Int) (hr2 : Rds w 1 A2 m (iv l)) (hl : ∀ x ∈ l, i64 x) (hn1 : n ≤ 1000) (hm1 : m ≤ 500) :
    Calls Try.prog 5 #[.slice A n c, .slice A2 m c2] w fun e w2 => e = .returned (.bool true) ∧ Chg Non w w2 := by
  have hnb : n = b.length := hr.lenMap
  have hml : m = l.length := hr2.lenMap
  have hb1 : b.length ≤ 1000 := by omega
  have hl1 : l.length ≤ 500 := by omega
  have Hnb := Lib.hid hnb; clear hnb
  have Hml := Lib.hid hml; clear hml
  go_enter Try.func5, Try.ntmps5
  go_wp2_with fail
  refine (alive_any _).mono ?_
  rintro e w1 ⟨rfl, hc1⟩
  have hr1 := hr.non hc1
  have hr2k := Lib.hid hr2
  go_wp2_with (first
    | (at_builtin; refine app8b rfl _ (.tmp 24) rfl (Own8.nil _ w1.heap.size) rfl hr1 rfl ?_ ?_ ?_; (next => (simp; omega)); (next => exact Nat.le_refl _); intro v2 w2 h2 h3 h4; simp only [List.nil_append] at h2; have hc2 := h3.mono (S2 := Non) (fun _ e => by cases e); clear h3 h4)
    | (at_builtin; (refine app8c rfl (.tmp 25) (.tmp 26) rfl h2 rfl rfl 77 rfl ?_ ?_ ?_; (next => omega); (next => exact hc2.size); intro v4 w4 h5 h6; obtain ⟨g4, n4, c4, rfl, hn4, h41, hg4, hlt4, hc4, hm4⟩ := h5.formN (by simp); have Hnn4 := len_snoc hn4 Hnb; have qs := fun w => run_slice_hi (P := Try.prog) Try.underlying23 (by kernel_rfl) (kl := .i64) (i := (n : Int)) (k := n) (c := c4) rfl (by have := Hnn4.out; omega) (some ⟨g4, 0, none⟩) n4 w)))
  have hC4 : Chg Non w1 w4 := h2.chgApp hc2 (Nat.le_refl _) h6
  have hr4 : Rds w4 1 (some ⟨g4, 0, none⟩) n (bv b) := h5.rdsN.take8 (by have := Hnn4.out; omega) (by rw [Hnb.out]; simp)
  have h77 : w4.cell? ⟨g4, n, none⟩ = some (.int .u8 77) := h5.cell (q := 77) (by rw [Hnb.out]; simp)
  have hr24 := (hr2.non hc1).non hC4
  refine (packInt_any _ _ _ b _ _ _ l _ hr4 hr24 hl (by omega)).mono ?_
  rintro e w5 ⟨v5, rfl, h7, hc5⟩
  have hlw : (nums l).length ≤ 10 * l.length := nums_len l
  obtain ⟨A5, n5, c5, rfl, hn5, hc51, hm5, hrd5⟩ := h7.open_
  have hlen5 : n5 = b.length + (nums l).length := by have := hn5.out; simp at this; exact this
  have hn5b : n ≤ n5 := by have := Hnb.out; omega
  have Hlen5 := Lib.hid hlen5; clear hlen5
  clear h2 hc2 h6 h5
  have hr15 := ((hr.non hc1).non hC4).non hc5
  have hr25 := hr24.non hc5
  have h775 := hc5.cell h77 (by exact id)
  clear hr1 hr4 hr24 h77
  go_wp2_with fail
  have q5 : ∀ w, Chg Non w5 w → (convert 23 9 (.slice A5 n5 c5)).run Try.prog w = .ok (.string ⟨(b ++ nums l).toArray⟩) w := fun w h => run_string_rds Try.underlying23 Try.underlying5 Try.underlying9 (hrd5.non h) c5
  have q5h := fun w => run_slice_hi (P := Try.prog) Try.underlying23 (by kernel_rfl) (kl := .i64) (i := (n : Int) + 1) (k := n + 1) (c := c4) (by omega) (by have := Hnn4.out; omega) (some ⟨g4, 0, none⟩) n w
  have h77w : ∀ w, Chg Non w5 w → w.cell? ⟨g4, n, none⟩ = some (.int .u8 77) := fun w h => h.cell h775 id
  have hwr : IntKind.i64.wrap ((n : Int) + 1) = (n : Int) + 1 := IntWalk.i64_in _ (by omega)
  refine st_region 1 Non [4] [] (fun _ _ _ _ => True) (fun _ _ v w => ∃ A n c, v = .slice A n c ∧ Rds w 1 A n (bv (b ++ nums l))) (fun _ _ v => ∃ A n c, v = .slice A n c) (fun _ => True) (by kernel_rfl) (by kernel_rfl) (fun _ h => h.elim) trivial (fun _ _ _ => trivial) ?_
  repeat (first | (refine st_pass (by rfl) ?_; simp only [Act.put, List.setIfInBounds_toArray, List.set_cons_succ, List.set_cons_zero]) | (refine st_plain (Non) (w5) rfl rfl (f := ?_) (by rfl) rfl rfl (fun w hC hG => ?_) ?_; rotate_left; (clear hG; first | (go_simp; done) | (go_simp; with_reducible rfl) | (simp [*, go_sem, ↓IntWalk.iteOmega]; done) | (simp [*, go_sem, ↓IntWalk.iteOmega]; with_reducible rfl)); simp only [Act.put, List.setIfInBounds_toArray, List.set_cons_succ, List.set_cons_zero]))
  refine st_major (Non) (w5) rfl rfl (by rfl) rfl (⟨.slice none 0 0, none, 0, 0, rfl⟩) (fun v w w2 _ h2 ⟨A, n, c, e, h⟩ => ⟨A, n, c, e, h.non h2⟩) (fun _ _ _ _ => trivial) (fun w hC hG hS => settle_of (r2 := ?_) ?_ ?_) ?_
  rotate_left
  (first | (go_simp; done) | (go_simp; rfl))
  · refine settle_enter ((refInt_any _ _ _ b _ _ _ l _ (hr15.non hC) (hr25.non hC) hl (by omega)).mono ?_)
    rintro e w6 ⟨v6, rfl, h8, hc6⟩
    obtain ⟨A6, n6, c6, rfl, _, _, _, hrd6⟩ := h8.open_
    exact ⟨_, rfl, ⟨_, _, _, rfl⟩, hc6, trivial, _, _, _, rfl, hrd6⟩
  · rintro v ⟨A6, n6, c6, rfl⟩
    simp only [Act.put, List.setIfInBounds_toArray, List.set_cons_succ, List.set_cons_zero]
    refine st_plain Non w5 rfl rfl (f := .string ⟨(b ++ nums l).toArray⟩) (by rfl) rfl rfl (fun w hC hG => ?_) ?_
    · obtain ⟨A, n, c, e, h⟩ : ∃ A n c, Value.slice A6 n6 c6 = .slice A n c ∧ Rds w 1 A n (bv (b ++ nums l)) := hG 4 rfl
      cases e
      have q := run_string_rds Try.underlying23 Try.underlying5 Try.underlying9 h c6
      clear hG
      go_simp
    simp only [Act.put, List.setIfInBounds_toArray, List.set_cons_succ, List.set_cons_zero]
    repeat (first | (refine st_pass (by rfl) ?_; simp only [Act.put, List.setIfInBounds_toArray, List.set_cons_succ, List.set_cons_zero]) | (refine st_plain (Non) (w5) rfl rfl (f := ?_) (by rfl) rfl rfl (fun w hC hG => ?_) ?_; rotate_left; (clear hG; first | (go_simp; done) | (go_simp; with_reducible rfl) | (simp [*, go_sem, ↓IntWalk.iteOmega]; done) | (simp [*, go_sem, ↓IntWalk.iteOmega]; with_reducible rfl)); simp only [Act.put, List.setIfInBounds_toArray, List.set_cons_succ, List.set_cons_zero]))
    refine st_end Non w5 rfl rfl (fun w6 hC6 _ _ => ?_)
    have hc6 : Chg Non w w6 := ((hc1.non hC4).non hc5).non hC6
    have hrd6 := hrd5.non hC6
    have q6 := fun w => run_slice_lo (P := Try.prog) Try.underlying23 1 (by kernel_rfl) (by kernel_rfl) (kl := .i64) (i := (n : Int)) (k := n) (n := n5) rfl hn5b A5 c5 w
    have hr6 : Rds w6 1 (cutA A5 c5 n 1) (n5 - n) (bv (nums l)) := hrd6.drop8 hn5b hc51 (by rw [Hnb.out]; simp)
    clear q5 q5h h77w hr15 hr25 h775 hrd5 hr2 hc1 hC4 hc5 hrd6 h7
    go_wp2_with fail
    refine (new_any _ _ _ _ _ hr6 (by omega)).mono ?_
    rintro e w7 ⟨g, rfl, hg, hcur, hc7⟩
    have hC7 := hc6.non hc7
    go_wp2_with fail
    have hgw : w.heap.size ≤ g := Nat.le_trans hc6.size hg
    clear hc6 hc7 hr6 q6 hC6
    go_loopw [9] (fun i wr => ∃ k : Nat, k ≤ m ∧ i = .int .i64 k ∧ Cur wr g (nums (l.drop k)) false ∧ Chg Non w wr) (fun i _ => m - (intOf i).toNat)
    case atStart => exact ⟨0, Nat.zero_le _, rfl, by simpa using hcur, hC7⟩
    case round =>
      clear hcur hC7
      obtain ⟨k, hk, rfl, hcur, hC⟩ := hrel
      by_cases hlt : k < m
      · obtain ⟨ad, x, rfl, hx, hcell⟩ := hr2k.out.getI hlt
        have hxi := hl x (List.mem_of_getElem? hx)
        have hdrop : nums (l.drop k) = num x ++ nums (l.drop (k + 1)) := by
          have h1 := List.getElem?_eq_some_iff.1 hx
          rw [List.drop_eq_getElem_cons h1.1, h1.2]
          simp [nums]
        rw [hdrop] at hcur
        have hci := cInt_num hxi (nums (l.drop (k + 1))) false
        have hadg : ad.block < g := Nat.lt_of_lt_of_le (by have := World.block_lt_of_cell? w _ hcell; rwa [block_add] at this) hgw
        have hld : ∀ w2, Chg (fun b => b = g) wr w2 → w2.cell? (ad.add k) = some (.int .i64 x) := fun w2 h => h.cell (hC.cell hcell id) (by rw [block_add]; omega)
        have hgl := hcur.lt
        have Hci := Lib.hid hci; clear hci hx hdrop
        go_wp2_with fail
        refine st_region 1 (fun b => b = g) [1] [] (fun _ _ _ w => Cur w g (nums (l.drop (k + 1))) false) (fun _ _ _ _ => True) (fun _ _ v => v = .int .i64 x) (fun w => Cur w g (num x ++ nums (l.drop (k + 1))) false) (by kernel_rfl) (by kernel_rfl) (fun _ h => by rw [h]; exact hgl) (hcur.non (Chg.refl _ _).drew) (fun w ob h => h.non ((Chg.refl _ w).alloc ob)) ?_
        repeat (first | (refine st_pass (by rfl) ?_; simp only [Act.put, List.setIfInBounds_toArray, List.set_cons_succ, List.set_cons_zero]) | (refine st_plain (fun b => b = g) (wr) rfl rfl (f := ?_) (by rfl) rfl rfl (fun w hC hG => ?_) ?_; rotate_left; (clear hG; first | (go_simp; done) | (go_simp; with_reducible rfl) | (simp [*, go_sem, ↓IntWalk.iteOmega]; done) | (simp [*, go_sem, ↓IntWalk.iteOmega]; with_reducible rfl)); simp only [Act.put, List.setIfInBounds_toArray, List.set_cons_succ, List.set_cons_zero]))
        refine st_major (fun b => b = g) (wr) rfl rfl (by rfl) rfl (⟨_, rfl⟩) (fun _ _ _ _ _ _ => trivial) (fun _ w ob h => h.non ((Chg.refl _ w).alloc ob)) (fun w hC hG hS => settle_of (r2 := ?_) ?_ ?_) ?_
        rotate_left
        (first | (go_simp; done) | (go_simp; rfl))
        · refine settle_enter ((int_any g _ _ _ hS).mono ?_)
          rintro e w6 ⟨rfl, h8, hc6⟩
          rw [Hci.out] at h8 ⊢
          exact ⟨_, rfl, rfl, hc6, h8, trivial⟩
        · rintro v rfl
          simp only [Act.put, List.setIfInBounds_toArray, List.set_cons_succ, List.set_cons_zero]
          repeat (first | (refine st_pass (by rfl) ?_; simp only [Act.put, List.setIfInBounds_toArray, List.set_cons_succ, List.set_cons_zero]) | (refine st_plain (fun b => b = g) (wr) rfl rfl (f := ?_) (by rfl) rfl rfl (fun w hC hG => ?_) ?_; rotate_left; (clear hG; first | (go_simp; done) | (go_simp; with_reducible rfl) | (simp [*, go_sem, ↓IntWalk.iteOmega]; done) | (simp [*, go_sem, ↓IntWalk.iteOmega]; with_reducible rfl)); simp only [Act.put, List.setIfInBounds_toArray, List.set_cons_succ, List.set_cons_zero]))
          refine st_end (fun b => b = g) wr rfl rfl (fun w6 hC6 hcur6 _ => ?_)
          go_wp2_with fail
          go_roundw
          case rel => exact ⟨k + 1, by omega, by go_num, hcur6, hC.trans2 hC6 fun b e => .inr (by omega)⟩
          case measure => simp [intOf]; omega
      · obtain rfl : k = m := by omega
        have hz : nums (l.drop k) = [] := by rw [List.drop_of_length_le (by have := Hml.out; omega)]; rfl
        rw [hz] at hcur
        go_wp2_with (first | (go_at_call 14; refine (bad_any g _ _ _ hcur).mono ?_; rintro e w9 ⟨rfl, rfl⟩) | (go_at_call 17; refine (end_any g _ _ _ hcur).mono ?_; rintro e w9 ⟨rfl, rfl⟩) | (go_at_call 15; refine (left_any g _ _ _ hcur).mono ?_; rintro e w9 ⟨rfl, rfl⟩))
        go_ret
        exact ⟨rfl, hC⟩

theorem packWrites_walk (w : World) (A : Option Addr) (n c : Nat) (e0 : Rd Try.prog w 23 (Value.slice A n c).cells.toList) (A2 : Option Addr) (m c2 : Nat) (e1 : Rd Try.prog w 35 (Value.slice A2 m c2).cells.toList) :
    Calls Try.prog 5 #[.slice A n c, .slice A2 m c2] w fun e w2 => e = .returned (.bool true) ∧ Chg Non w w2 := by
  obtain ⟨A', n', c', b, h1, h2, h3, h4⟩ := e0.bytes Try.underlying23 (by kernel_rfl) Try.underlying5
  obtain ⟨A2', n2', c2', l, g1, g2, g3, g4, g5⟩ := e1.ints Try.underlying35 (by kernel_rfl) Try.underlying3
  simp only [Value.cells, List.cons.injEq, and_true, Value.slice.injEq] at h1 g1
  obtain ⟨rfl, rfl, rfl⟩ := h1
  obtain ⟨rfl, rfl, rfl⟩ := g1
  by_cases hn : n ≤ 1000 ∧ m ≤ 500
  · exact packWrites_core w A n c b h2 h4 A2 m c2 l g4 g5 hn.1 hn.2
  · clear h4 g4 g5 e0 e1
    have hn2 : 1000 < n ∨ 500 < m := by omega
    unfold maxLen at h3 g3
    clear hn
    rcases Nat.lt_or_ge 1000 n with h | h
    all_goals
      have h5 : 500 < m ∨ 1000 < n := by omega
      go_enter Try.func5, Try.ntmps5
      go_wp2_with fail
      refine (alive_any _).mono ?_
      rintro e w1 ⟨rfl, hc1⟩
      go_wp2_with fail
      go_ret
      exact ⟨rfl, hc1⟩
end Go.Proofs.Ytbjpnnpbhocffaa
