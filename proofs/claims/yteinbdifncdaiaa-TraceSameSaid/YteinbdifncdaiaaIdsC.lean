/-
  Rows of names: slices.Clone; gleanerref1.SameIDs of two rows that are one (the first part of XIds, for seats without slices.Index).
-/
import Derived.Test.YteinbdifncdaiaaRows
import Derived.Test.YteinbdifncdaiaaWin
import Derived.Test.YteinbdifncdaiaaGet
import Derived.Test.YteinbdifncdaiaaLaw
namespace Go.Proofs.Yteinbdifncdaiaa
open Go.RowKit
set_option linter.unusedVariables false
set_option linter.unusedSimpArgs false

abbrev rkI : RowKind Try.prog where
  t := 39
  e := 26
  z := .string ⟨#[]⟩
  size := 1
  bytes := 16
  ht := Try.underlying39
  info := by kernel_rfl
  hz := rfl
  hs := by decide
  hb := by decide

def sv (L : List ByteArray) : List Value := L.map Value.string
theorem svI_one (L : List ByteArray) : ∀ u ∈ sv L, u.oneCell' = true := by
  intro u hu
  simp only [sv, List.mem_map] at hu
  obtain ⟨b, _, rfl⟩ := hu
  rfl
theorem Rds.getS {w : World} {A : Option Addr} {n : Nat} {l : List ByteArray} (h : Rds w 1 A n (sv l)) {k : Nat} (hk : k < n) :
    ∃ ad x, A = some ad ∧ l[k]? = some x ∧ w.cell? (ad.add k) = some (.string x) := h.getMap (f := Value.string) hk
theorem str_ne {a b : ByteArray} (h : a ≠ b) : (a.toList == b.toList) = false := by
  rw [beq_eq_false_iff_ne, ByteArray.toList_eq, ByteArray.toList_eq]
  intro e
  apply h
  obtain ⟨⟨a⟩⟩ := a
  obtain ⟨⟨b⟩⟩ := b
  simp at e
  rw [e]

theorem cloneI_any (A : Option Addr) (n c : Nat) (xs : List Value) (w : World) (hr : Rds w (rkI).size A n xs) (h1 : ∀ u ∈ xs, u.oneCell' = true) (hn : n ≤ 1099511627776) :
    Calls Try.prog 35 #[.slice A n c] w fun e w2 => ∃ v, e = .returned v ∧ OwnR rkI w2 w.heap.size v n xs ∧ Chg Non w w2 := by
  have q : ∀ (w : World) (a : Option Addr) (n c : Nat), (binOp .eql 39 (.slice a n c) (.slice none 0 0)).run Try.prog w = .ok (.bool a.isNone) w := fun w a n c => Lib.run_eql_slice_nil w _ _ a n c 0 0 Try.underlying39
  cases A with
  | none =>
    have h0 : n = 0 := by
      rcases Nat.eq_zero_or_pos n with h0 | h0
      · exact h0
      · obtain ⟨_, h, _⟩ := hr.2 h0; cases h
    subst h0
    have hx : xs = [] := List.eq_nil_of_length_eq_zero (by have := hr.1; omega)
    subst hx
    go_enter Try.func35, Try.ntmps35
    go_wp2_with fail
    go_ret
    exact ⟨_, rfl, OwnR.nil _ _ _, Chg.refl _ _⟩
  | some ad =>
    have hown : OwnR rkI (w.alloc (.cells #[] (rkI).e)) w.heap.size (.slice (some ⟨w.heap.size, 0, none⟩) 0 0) 0 [] := World.ownsRow_made w #[] 0 (Nat.le_refl _) (by unfold maxLen; omega) rfl
    have hr2 := hr.non ((Chg.refl _ w).alloc (.cells #[] (rkI).e))
    go_enter Try.func35, Try.ntmps35
    go_wp2_with (at_builtin; refine appR (K := rkI) rfl (.tmp 5) (.tmp 6) rfl hown rfl hr2 rfl h1 ?_ ?_ ?_; rotate_right; intro v2 w2 h2 h3 h4)
    · go_ret
      exact ⟨_, rfl, by simpa using h2, OwnR.chgApp hown ((Chg.refl _ w).alloc _) (Nat.le_refl _) h3⟩
    all_goals (first | omega | (simp; done))

set_option maxRecDepth 100000 in
theorem sameIDs_same (w : World) (A : Option Addr) (n c : Nat) (B : Option Addr) (c2 : Nat) (L : List ByteArray) (h1 : Rds w 1 A n (sv L)) (h2 : Rds w 1 B n (sv L)) (hn : n ≤ 9223372036854775807) :
    Calls Try.prog 11 #[.slice A n c, .slice B n c2] w fun e w2 => e = .returned (.bool true) ∧ Chg Non w w2 := by
  have H1 := Lib.hid h1
  have H2 := Lib.hid h2
  clear h1 h2
  go_enter Try.func11, Try.ntmps11
  go_wp2_with fail
  go_loopw [5] (fun i wr => ∃ k : Nat, k ≤ n ∧ i = .int .i64 k ∧ Chg Non w wr) (fun i _ => n - (intOf i).toNat)
  case atStart => exact ⟨0, Nat.zero_le _, rfl, Chg.refl _ _⟩
  case round =>
    obtain ⟨k, hk, rfl, hC⟩ := hrel
    by_cases hlt : k < n
    · obtain ⟨ad, x, rfl, hx, hc⟩ := H1.out.getS hlt
      obtain ⟨ad2, x2, rfl, hx2, hc2⟩ := H2.out.getS hlt
      obtain rfl : x2 = x := by rw [hx] at hx2; exact (Option.some.inj hx2).symm
      have a0 := hC.cell hc id
      have b0 := hC.cell hc2 id
      have b1 : (0 : Int) ≤ (k : Int) := by omega
      have b2 : (k : Int) < n := by omega
      clear hc hc2 hx hx2
      go_wp2_with fail
      go_quiet (fail)
      go_wp2_with fail
      go_roundw
      case rel => exact ⟨k + 1, by omega, by go_num, hC.drewN _⟩
      case measure => simp [intOf]; omega
    · go_wp2_with fail
      go_ret
      exact ⟨rfl, hC⟩

end Go.Proofs.Yteinbdifncdaiaa
