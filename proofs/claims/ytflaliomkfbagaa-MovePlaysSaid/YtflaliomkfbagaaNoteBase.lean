/-
  Notes: rows of numbers and of members; note.within, ended, members.
-/
import Derived.Test.YtflaliomkfbagaaNoteParts
import Derived.Test.YtflaliomkfbagaaRow
import Derived.Test.YtflaliomkfbagaaFlat
namespace Go.Proofs.Ytflaliomkfbagaa
open Go.RowKit
set_option linter.unusedVariables false
set_option linter.unusedSimpArgs false

abbrev rkN : RowKind Try.prog where
  t := 29
  e := 3
  z := .int .i64 0
  size := 1
  bytes := 8
  ht := Try.underlying29
  info := by kernel_rfl
  hz := rfl
  hs := by decide
  hb := by decide
abbrev rkM : RowKind Try.prog where
  t := 55
  e := 116
  z := .agg #[.int .i64 0, .int .i64 0]
  size := 2
  bytes := 16
  ht := Try.underlying55
  info := by kernel_rfl
  hz := rfl
  hs := by decide
  hb := by decide
def cellM (m : Mb) : List Value := [.int .i64 m.1, .int .i64 m.2]
def mv (L : List Mb) : List Value := L.flatMap cellM
theorem cellM_len (m : Mb) : (cellM m).length = 2 := rfl
theorem cellM_one (m : Mb) : ∀ u ∈ cellM m, u.oneCell' = true := by
  intro u hu
  simp only [cellM, List.mem_cons, List.not_mem_nil, or_false] at hu
  rcases hu with rfl | rfl <;> rfl
theorem mv_one (L : List Mb) : ∀ u ∈ mv L, u.oneCell' = true := flat_one cellM_one L
theorem Rds.getM {w : World} {A : Option Addr} {n : Nat} {L : List Mb} (h : Rds w 2 A n (mv L)) {k : Nat} (hk : k < n) :
    ∃ ad m, A = some ad ∧ L[k]? = some m ∧ w.cell? (ad.add (k * 2)) = some (.int .i64 m.1) ∧ w.cell? ⟨(ad.add (k * 2)).block, (ad.add (k * 2)).off + 1, none⟩ = some (.int .i64 m.2) := by
  obtain ⟨ad, m, e, hx, h0, h1⟩ := Rds.getN cellM_len (by decide) h hk
  exact ⟨ad, m, e, hx, h0 _ rfl, h1 0 _ rfl⟩
theorem Rds.lenM {w : World} {A : Option Addr} {n : Nat} {L : List Mb} (h : Rds w 2 A n (mv L)) : n = L.length := flat_eq cellM_len (by decide) h

theorem cloneN_any (A : Option Addr) (n c : Nat) (xs : List Value) (w : World) (hr : Rds w (rkN).size A n xs) (h1 : ∀ u ∈ xs, u.oneCell' = true) (hn : n ≤ 1099511627776) :
    Calls Try.prog 70 #[.slice A n c] w fun e w2 => ∃ v, e = .returned v ∧ OwnR rkN w2 w.heap.size v n xs ∧ Chg Non w w2 := by
  have q : ∀ (w : World) (a : Option Addr) (n c : Nat), (binOp .eql 29 (.slice a n c) (.slice none 0 0)).run Try.prog w = .ok (.bool a.isNone) w := fun w a n c => Lib.run_eql_slice_nil w _ _ a n c 0 0 Try.underlying29
  cases A with
  | none =>
    have h0 : n = 0 := by
      rcases Nat.eq_zero_or_pos n with h0 | h0
      · exact h0
      · obtain ⟨_, h, _⟩ := hr.2 h0; cases h
    subst h0
    have hx : xs = [] := List.eq_nil_of_length_eq_zero (by have := hr.1; omega)
    subst hx
    go_enter Try.func70, Try.ntmps70
    go_wp2_with fail
    go_ret
    exact ⟨_, rfl, OwnR.nil _ _ _, Chg.refl _ _⟩
  | some ad =>
    have hown : OwnR rkN (w.alloc (.cells #[] (rkN).e)) w.heap.size (.slice (some ⟨w.heap.size, 0, none⟩) 0 0) 0 [] := World.ownsRow_made w #[] 0 (Nat.le_refl _) (by unfold maxLen; omega) rfl
    have hr2 := hr.non ((Chg.refl _ w).alloc (.cells #[] (rkN).e))
    go_enter Try.func70, Try.ntmps70
    go_wp2_with (at_builtin; refine appR (K := rkN) rfl (.tmp 5) (.tmp 6) rfl hown rfl hr2 rfl h1 ?_ ?_ ?_; rotate_right; intro v2 w2 h2 h3 h4)
    · go_ret
      exact ⟨_, rfl, by simpa using h2, OwnR.chgApp hown ((Chg.refl _ w).alloc _) (Nat.le_refl _) h3⟩
    all_goals (first | omega | (simp; done))


theorem cloneM_any (A : Option Addr) (n c : Nat) (xs : List Value) (w : World) (hr : Rds w (rkM).size A n xs) (h1 : ∀ u ∈ xs, u.oneCell' = true) (hn : n ≤ 1099511627776) :
    Calls Try.prog 71 #[.slice A n c] w fun e w2 => ∃ v, e = .returned v ∧ OwnR rkM w2 w.heap.size v n xs ∧ Chg Non w w2 := by
  have q : ∀ (w : World) (a : Option Addr) (n c : Nat), (binOp .eql 55 (.slice a n c) (.slice none 0 0)).run Try.prog w = .ok (.bool a.isNone) w := fun w a n c => Lib.run_eql_slice_nil w _ _ a n c 0 0 Try.underlying55
  cases A with
  | none =>
    have h0 : n = 0 := by
      rcases Nat.eq_zero_or_pos n with h0 | h0
      · exact h0
      · obtain ⟨_, h, _⟩ := hr.2 h0; cases h
    subst h0
    have hx : xs = [] := List.eq_nil_of_length_eq_zero (by have := hr.1; omega)
    subst hx
    go_enter Try.func71, Try.ntmps71
    go_wp2_with fail
    go_ret
    exact ⟨_, rfl, OwnR.nil _ _ _, Chg.refl _ _⟩
  | some ad =>
    have hown : OwnR rkM (w.alloc (.cells #[] (rkM).e)) w.heap.size (.slice (some ⟨w.heap.size, 0, none⟩) 0 0) 0 [] := World.ownsRow_made w #[] 0 (Nat.le_refl _) (by unfold maxLen; omega) rfl
    have hr2 := hr.non ((Chg.refl _ w).alloc (.cells #[] (rkM).e))
    go_enter Try.func71, Try.ntmps71
    go_wp2_with (at_builtin; refine appR (K := rkM) rfl (.tmp 5) (.tmp 6) rfl hown rfl hr2 rfl h1 ?_ ?_ ?_; rotate_right; intro v2 w2 h2 h3 h4)
    · go_ret
      exact ⟨_, rfl, by simpa using h2, OwnR.chgApp hown ((Chg.refl _ w).alloc _) (Nat.le_refl _) h3⟩
    all_goals (first | omega | (simp; done))


theorem all_snoc {p : Int → Bool} {l : List Int} {k : Nat} {x : Int} (h : l[k]? = some x) (hp : (l.take k).all p = true) (hx : p x = true) : (l.take (k + 1)).all p = true := by
  rw [List.take_add_one, h]
  simp [hp, hx]
theorem all_no {p : Int → Bool} {l : List Int} {k : Nat} {x : Int} (h : l[k]? = some x) (hx : p x = false) : l.all p = false := by
  rw [List.all_eq_false]
  exact ⟨x, List.mem_of_getElem? h, by simp [hx]⟩
set_option maxRecDepth 100000 in
theorem within_any (w : World) (m : Int) (A : Option Addr) (n c : Nat) (l : List Int) (hr : Rds w 1 A n (iv l)) (hn : n ≤ 9223372036854775807) :
    Calls Try.prog 72 #[.int .i64 m, .slice A n c] w fun e w2 => e = .returned (.bool (l.all (upto m))) ∧ w = w2 := by
  have Hnl := Lib.hid hr.lenMap
  have Hr := Lib.hid hr
  clear hr
  go_enter Try.func72, Try.ntmps72
  go_wp2_with fail
  go_loop [9] (fun i => ∃ k : Nat, k ≤ n ∧ i = .int .i64 k ∧ Hid ((l.take k).all (upto m) = true)) (fun i => n - (intOf i).toNat)
  case atStart => exact ⟨0, Nat.zero_le _, rfl, rfl⟩
  case round =>
    obtain ⟨k, hk, rfl, hall⟩ := hrel
    by_cases hlt : k < n
    · obtain ⟨ad, x, rfl, hx, hcell⟩ := Hr.out.getI hlt
      by_cases h0 : x < 0
      · have hno := Lib.hid (all_no (p := upto m) hx (by unfold upto; rw [decide_eq_false (by omega)]; rfl))
        clear hx
        go_wp2_with fail
        go_ret
        exact ⟨by rw [hno.out]; rfl, rfl⟩
      · by_cases h1 : m < x
        · have hno := Lib.hid (all_no (p := upto m) hx (by unfold upto; rw [decide_eq_false (show ¬ x ≤ m by omega)]; simp))
          clear hx
          go_wp2_with fail
          go_ret
          exact ⟨by rw [hno.out]; rfl, rfl⟩
        · have hyes := Lib.hid (all_snoc (p := upto m) hx hall.out (by rw [upto_iff]; omega))
          clear hx hall
          go_wp2_with fail
          go_round
          case rel => exact ⟨k + 1, by omega, by go_num, hyes⟩
          case measure => simp [intOf]; omega
    · obtain rfl : k = n := by omega
      have hyes : l.all (upto m) = true := by have := hall.out; rwa [List.take_of_length_le (by have := Hnl.out; omega)] at this
      go_wp2_with fail
      go_ret
      exact ⟨rfl, rfl⟩


theorem rds1 (w : World) (a : Int) : Rds (w.alloc (.cells #[.int .i64 a] 3)) 1 (some ⟨w.heap.size, 0, none⟩) 1 (iv [a]) := Rds.block (Blk.new w 3 #[.int .i64 a]) rfl
theorem rds2 (w : World) (a b : Int) : Rds (w.alloc (.cells #[.int .i64 a, .int .i64 b] 3)) 1 (some ⟨w.heap.size, 0, none⟩) 2 (iv [a, b]) := Rds.block (Blk.new w 3 #[.int .i64 a, .int .i64 b]) rfl
theorem rds3 (w : World) (a b c : Int) : Rds (w.alloc (.cells #[.int .i64 a, .int .i64 b, .int .i64 c] 3)) 1 (some ⟨w.heap.size, 0, none⟩) 3 (iv [a, b, c]) := Rds.block (Blk.new w 3 #[.int .i64 a, .int .i64 b, .int .i64 c]) rfl
theorem rds5 (w : World) (a b c d e : Int) : Rds (w.alloc (.cells #[.int .i64 a, .int .i64 b, .int .i64 c, .int .i64 d, .int .i64 e] 3)) 1 (some ⟨w.heap.size, 0, none⟩) 5 (iv [a, b, c, d, e]) := Rds.block (Blk.new w 3 #[.int .i64 a, .int .i64 b, .int .i64 c, .int .i64 d, .int .i64 e]) rfl

theorem ended_any (w : World) (e v : Int) :
    Calls Try.prog 73 #[.agg #[.int .i64 e, .int .i64 v]] w fun x w2 => x = .returned (.bool (endB e v)) ∧ Chg Non w w2 := by
  obtain ⟨w1, hw1⟩ : ∃ w1, w.alloc (.cells #[.int .i64 e, .int .i64 v] 54) = w1 := ⟨_, rfl⟩
  have hC : Chg Non w w1 := hw1 ▸ (Chg.refl _ _).alloc _
  have hb : Blk w1 w.heap.size 54 #[.int .i64 e, .int .i64 v] := hw1 ▸ Blk.new _ _ _
  have c0 := hb.cell 0
  have c1 := hb.cell 1
  simp only [List.getElem?_toArray, List.getElem?_cons_zero, List.getElem?_cons_succ] at c0 c1
  have hcase : e = 0 ∨ e = 25 ∨ (e < 20 ∧ e ≠ 0) ∨ 25 < e ∨ (20 ≤ e ∧ e < 25) := by omega
  rcases hcase with h | h | ⟨h, h'⟩ | h | ⟨h, h'⟩
  · subst h
    have hE := Lib.hid (show endB 0 v = true from rfl)
    go_enter Try.func73, Try.ntmps73
    go_wp2_with fail
    go_ret
    exact ⟨by rw [hE.out]; rfl, hC⟩
  · subst h
    have hE := Lib.hid (show endB 25 v = true from rfl)
    go_enter Try.func73, Try.ntmps73
    go_wp2_with fail
    go_ret
    exact ⟨by rw [hE.out]; rfl, hC⟩
  · have t0 : (e == 0) = false := beq_eq_false_iff_ne.2 h'
    have t1 : (e == 25) = false := beq_eq_false_iff_ne.2 (by omega)
    have hE : endB e v = false := by unfold endB; rw [t0, t1, decide_eq_false (by omega)]; rfl
    have HE := Lib.hid hE
    clear hE
    go_enter Try.func73, Try.ntmps73
    go_wp2_with fail
    go_ret
    exact ⟨by rw [HE.out]; rfl, hC⟩
  · have t0 : (e == 0) = false := beq_eq_false_iff_ne.2 (by omega)
    have t1 : (e == 25) = false := beq_eq_false_iff_ne.2 (by omega)
    have hE : endB e v = false := by unfold endB; rw [t0, t1, decide_eq_true (show 20 ≤ e by omega), decide_eq_false (show ¬ e < 25 by omega)]; rfl
    have HE := Lib.hid hE
    clear hE
    go_enter Try.func73, Try.ntmps73
    go_wp2_with fail
    go_ret
    exact ⟨by rw [HE.out]; rfl, hC⟩
  · have t0 : (e == 0) = false := beq_eq_false_iff_ne.2 (by omega)
    have t1 : (e == 25) = false := beq_eq_false_iff_ne.2 (by omega)
    have hE : endB e v = (v == 0) := by unfold endB; rw [t0, t1, decide_eq_true h, decide_eq_true h']; rfl
    have HE := Lib.hid hE
    clear hE
    go_enter Try.func73, Try.ntmps73
    go_wp2_with fail
    go_ret
    exact ⟨by rw [HE.out]; rfl, hC⟩
end Go.Proofs.Ytflaliomkfbagaa
