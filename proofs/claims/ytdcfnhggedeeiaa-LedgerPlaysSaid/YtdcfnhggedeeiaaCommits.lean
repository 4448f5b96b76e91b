/-
  Rows of commits: api.Commit; gleanerref4.SameResult; gleanerlaw22.Commits of two rows that are one.
-/
import Derived.Test.YtdcfnhggedeeiaaRows
import Derived.Test.YtdcfnhggedeeiaaFlat
import Derived.Test.YtdcfnhggedeeiaaRow
import Derived.Test.YtdcfnhggedeeiaaLaw
namespace Go.Proofs.Ytdcfnhggedeeiaa
open Go.RowKit
set_option linter.unusedVariables false
set_option linter.unusedSimpArgs false

abbrev rkC : RowKind Try.prog where
  t := 26
  e := 33
  z := .agg #[.string ⟨#[]⟩, .int .i64 0, .int .i64 0]
  size := 3
  bytes := 32
  ht := Try.underlying26
  info := by kernel_rfl
  hz := rfl
  hs := by decide
  hb := by decide

/-- A commit: a name, an error, a value. -/
abbrev Cm := ByteArray × Int × Int
def cellC (c : Cm) : List Value := [.string c.1, .int .i64 c.2.1, .int .i64 c.2.2]
def cv (T : List Cm) : List Value := T.flatMap cellC
theorem cellC_len (c : Cm) : (cellC c).length = 3 := rfl
theorem cellC_one (c : Cm) : ∀ u ∈ cellC c, u.oneCell' = true := by
  intro u hu
  simp only [cellC, List.mem_cons, List.not_mem_nil, or_false] at hu
  rcases hu with rfl | rfl | rfl <;> rfl
theorem cv_one (T : List Cm) : ∀ u ∈ cv T, u.oneCell' = true := flat_one cellC_one T
theorem cv_snoc (T : List Cm) (c : Cm) : cv (T ++ [c]) = cv T ++ cellC c := flat_snoc _ _ _

theorem sameRes_any (a b c d : Int) (w : World) :
    Calls Try.prog 18 #[.agg #[.int .i64 a, .int .i64 b], .agg #[.int .i64 c, .int .i64 d]] w fun e w2 => e = .returned (.bool (decide (a = c) && decide (b = d))) ∧ Chg Non w w2 := by
  have hC : Chg Non w ((w.alloc (.cells #[.int .i64 a, .int .i64 b] 31)).alloc (.cells #[.int .i64 c, .int .i64 d] 31)) := ((Chg.refl _ _).alloc _).alloc _
  by_cases h1 : a = c
  · subst h1
    by_cases h2 : b = d
    · subst h2
      go_enter Try.func18, Try.ntmps18
      go_wp2_with fail
      go_ret
      exact ⟨by simp, hC⟩
    · have e2 : (b == d) = false := beq_eq_false_iff_ne.2 h2
      have H2 := Lib.hid h2
      clear h2
      go_enter Try.func18, Try.ntmps18
      go_wp2_with fail
      go_ret
      exact ⟨by simp [H2.out], hC⟩
  · have e1 : (a == c) = false := beq_eq_false_iff_ne.2 h1
    have H1 := Lib.hid h1
    clear h1
    go_enter Try.func18, Try.ntmps18
    go_wp2_with fail
    go_ret
    exact ⟨by simp [H1.out], hC⟩

set_option maxRecDepth 100000 in
set_option maxHeartbeats 400000 in
theorem commits_same (w : World) (A : Option Addr) (n c : Nat) (B : Option Addr) (c2 : Nat) (T : List Cm) (h1 : Rds w 3 A n (cv T)) (h2 : Rds w 3 B n (cv T)) (hn : n ≤ 4611686018427387904) :
    Calls Try.prog 9 #[.slice A n c, .slice B n c2] w fun e w2 => e = .returned (.bool true) ∧ Chg Non w w2 := by
  have H1 := Lib.hid h1
  have H2 := Lib.hid h2
  clear h1 h2
  go_enter Try.func9, Try.ntmps9
  go_wp2_with fail
  go_loopw [5] (fun i wr => ∃ k : Nat, k ≤ n ∧ i = .int .i64 k ∧ Chg Non w wr) (fun i _ => n - (intOf i).toNat)
  case atStart => exact ⟨0, Nat.zero_le _, rfl, Chg.refl _ _⟩
  case round =>
    obtain ⟨k, hk, rfl, hC⟩ := hrel
    by_cases hlt : k < n
    · obtain ⟨ad, ⟨s, x, y⟩, rfl, hx, hc0, hc⟩ := H1.out.getN cellC_len (by decide) hlt
      obtain ⟨ad2, cm2, rfl, hx2, hd0, hd⟩ := H2.out.getN cellC_len (by decide) hlt
      obtain rfl : cm2 = (s, x, y) := by rw [hx] at hx2; exact (Option.some.inj hx2).symm
      have ka0 : ∀ w, Chg Non wr w → w.cell? (ad.add (k * 3)) = some (.string s) := fun w h => h.cell (hC.cell (hc0 _ rfl) id) id
      have ka1 : ∀ w, Chg Non wr w → w.cell? ⟨(ad.add (k * 3)).block, (ad.add (k * 3)).off + 1, none⟩ = some (.int .i64 x) := fun w h => h.cell (hC.cell (hc 0 _ rfl) id) id
      have ka2 : ∀ w, Chg Non wr w → w.cell? ⟨(ad.add (k * 3)).block, (ad.add (k * 3)).off + 2, none⟩ = some (.int .i64 y) := fun w h => h.cell (hC.cell (hc 1 _ rfl) id) id
      have kb0 : ∀ w, Chg Non wr w → w.cell? (ad2.add (k * 3)) = some (.string s) := fun w h => h.cell (hC.cell (hd0 _ rfl) id) id
      have kb1 : ∀ w, Chg Non wr w → w.cell? ⟨(ad2.add (k * 3)).block, (ad2.add (k * 3)).off + 1, none⟩ = some (.int .i64 x) := fun w h => h.cell (hC.cell (hd 0 _ rfl) id) id
      have kb2 : ∀ w, Chg Non wr w → w.cell? ⟨(ad2.add (k * 3)).block, (ad2.add (k * 3)).off + 2, none⟩ = some (.int .i64 y) := fun w h => h.cell (hC.cell (hd 1 _ rfl) id) id
      clear hc hd hc0 hd0 hx hx2
      go_wp2_with fail
      refine st_region 8 Non [22] [] (fun _ _ _ _ => True) (fun _ _ _ _ => True) (fun _ _ v => v = .bool true) (fun _ => True) (by kernel_rfl) (by kernel_rfl) (fun _ h => h.elim) trivial (fun _ _ _ => trivial) ?_
      repeat (first | (refine st_pass (by rfl) ?_; simp only [Act.put, List.setIfInBounds_toArray, List.set_cons_succ, List.set_cons_zero]) | (refine st_plain (Non) (wr) rfl rfl (f := ?_) (by rfl) rfl rfl (fun w hC hG => ?_) ?_; rotate_left; (clear hG; first | (go_simp; done) | (go_simp; with_reducible rfl) | (simp [*, go_sem, ↓IntWalk.iteOmega]; done) | (simp [*, go_sem, ↓IntWalk.iteOmega]; with_reducible rfl)); simp only [Act.put, List.setIfInBounds_toArray, List.set_cons_succ, List.set_cons_zero]))
      refine st_major (Non) (wr) rfl rfl (by rfl) rfl (⟨.bool true, rfl⟩) (fun _ _ _ _ _ _ => trivial) (fun _ _ _ _ => trivial) (fun w hC hG hS => settle_of (r2 := ?_) ?_ ?_) ?_
      rotate_left
      (first | (go_simp; done) | (go_simp; rfl))
      · refine settle_enter ((sameRes_any x y x y _).mono ?_)
        rintro e w6 ⟨rfl, hc6⟩
        exact ⟨_, rfl, by simp, hc6, trivial, trivial⟩
      · rintro v4 rfl
        simp only [Act.put, List.setIfInBounds_toArray, List.set_cons_succ, List.set_cons_zero]
        repeat (first | (refine st_pass (by rfl) ?_; simp only [Act.put, List.setIfInBounds_toArray, List.set_cons_succ, List.set_cons_zero]) | (refine st_plain (Non) (wr) rfl rfl (f := ?_) (by rfl) rfl rfl (fun w hC hG => ?_) ?_; rotate_left; (clear hG; first | (go_simp; done) | (go_simp; with_reducible rfl) | (simp [*, go_sem, ↓IntWalk.iteOmega]; done) | (simp [*, go_sem, ↓IntWalk.iteOmega]; with_reducible rfl)); simp only [Act.put, List.setIfInBounds_toArray, List.set_cons_succ, List.set_cons_zero]))
        refine st_end Non wr rfl rfl (fun w5 hC5 _ hG => ?_)
        have hC6 := hC.non hC5
        clear hG ka0 ka1 ka2 kb0 kb1 kb2
        go_wp2_with fail
        go_roundw
        case rel => exact ⟨k + 1, by omega, by go_num, hC6⟩
        case measure => simp [intOf]; omega
    · go_wp2_with fail
      go_ret
      exact ⟨rfl, hC⟩
end Go.Proofs.Ytdcfnhggedeeiaa
