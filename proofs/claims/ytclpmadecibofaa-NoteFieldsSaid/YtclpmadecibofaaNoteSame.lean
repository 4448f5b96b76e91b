/-
  gleanerref10.SameNote, of any notes.
-/
import Derived.Test.YtclpmadecibofaaNoteSameR
namespace Go.Proofs.Ytclpmadecibofaa
open Go.RowKit
set_option linter.unusedVariables false
set_option linter.unusedSimpArgs false

set_option maxRecDepth 100000 in
set_option maxHeartbeats 4000000 in
theorem same_no0 (w : World) (a0 a1 a2 a3 : Int) (a4 : ByteArray) (a5 a7 a8 a9 b0 b1 b2 b3 : Int) (b4 : ByteArray) (b5 b7 b8 b9 : Int) (A : Option Addr) (k c : Nat) (B : Option Addr) (m d : Nat) (A2 : Option Addr) (k2 c2 : Nat) (B2 : Option Addr) (m2 d2 : Nat) (h : (a0 != b0) = true) :
    Calls Try.prog 14 #[.agg #[.int .i64 a0, .int .i64 a1, .int .i64 a2, .int .i64 a3, .string a4, .int .i64 a5, .slice A k c, .int .i64 a7, .int .i64 a8, .int .i64 a9, .slice B m d], .agg #[.int .i64 b0, .int .i64 b1, .int .i64 b2, .int .i64 b3, .string b4, .int .i64 b5, .slice A2 k2 c2, .int .i64 b7, .int .i64 b8, .int .i64 b9, .slice B2 m2 d2]] w fun e w2 => e = .returned (.bool false) ∧ Chg Non w w2 := by
  go_enter Try.func14, Try.ntmps14
  go_wp2_with fail
  go_ret
  exact ⟨rfl, ((Chg.refl _ _).alloc _).alloc _⟩

set_option maxRecDepth 100000 in
set_option maxHeartbeats 4000000 in
theorem same_no1 (w : World) (a0 a1 a2 a3 : Int) (a4 : ByteArray) (a5 a7 a8 a9 b0 b1 b2 b3 : Int) (b4 : ByteArray) (b5 b7 b8 b9 : Int) (A : Option Addr) (k c : Nat) (B : Option Addr) (m d : Nat) (A2 : Option Addr) (k2 c2 : Nat) (B2 : Option Addr) (m2 d2 : Nat) (h : (a1 != b1) = true) :
    Calls Try.prog 14 #[.agg #[.int .i64 a0, .int .i64 a1, .int .i64 a2, .int .i64 a3, .string a4, .int .i64 a5, .slice A k c, .int .i64 a7, .int .i64 a8, .int .i64 a9, .slice B m d], .agg #[.int .i64 a0, .int .i64 b1, .int .i64 b2, .int .i64 b3, .string b4, .int .i64 b5, .slice A2 k2 c2, .int .i64 b7, .int .i64 b8, .int .i64 b9, .slice B2 m2 d2]] w fun e w2 => e = .returned (.bool false) ∧ Chg Non w w2 := by
  go_enter Try.func14, Try.ntmps14
  go_wp2_with fail
  go_ret
  exact ⟨rfl, ((Chg.refl _ _).alloc _).alloc _⟩

set_option maxRecDepth 100000 in
set_option maxHeartbeats 4000000 in
theorem same_no2 (w : World) (a0 a1 a2 a3 : Int) (a4 : ByteArray) (a5 a7 a8 a9 b0 b1 b2 b3 : Int) (b4 : ByteArray) (b5 b7 b8 b9 : Int) (A : Option Addr) (k c : Nat) (B : Option Addr) (m d : Nat) (A2 : Option Addr) (k2 c2 : Nat) (B2 : Option Addr) (m2 d2 : Nat) (h : (a2 != b2) = true) :
    Calls Try.prog 14 #[.agg #[.int .i64 a0, .int .i64 a1, .int .i64 a2, .int .i64 a3, .string a4, .int .i64 a5, .slice A k c, .int .i64 a7, .int .i64 a8, .int .i64 a9, .slice B m d], .agg #[.int .i64 a0, .int .i64 a1, .int .i64 b2, .int .i64 b3, .string b4, .int .i64 b5, .slice A2 k2 c2, .int .i64 b7, .int .i64 b8, .int .i64 b9, .slice B2 m2 d2]] w fun e w2 => e = .returned (.bool false) ∧ Chg Non w w2 := by
  go_enter Try.func14, Try.ntmps14
  go_wp2_with fail
  go_ret
  exact ⟨rfl, ((Chg.refl _ _).alloc _).alloc _⟩

set_option maxRecDepth 100000 in
set_option maxHeartbeats 4000000 in
theorem same_no3 (w : World) (a0 a1 a2 a3 : Int) (a4 : ByteArray) (a5 a7 a8 a9 b0 b1 b2 b3 : Int) (b4 : ByteArray) (b5 b7 b8 b9 : Int) (A : Option Addr) (k c : Nat) (B : Option Addr) (m d : Nat) (A2 : Option Addr) (k2 c2 : Nat) (B2 : Option Addr) (m2 d2 : Nat) (h : (a3 != b3) = true) :
    Calls Try.prog 14 #[.agg #[.int .i64 a0, .int .i64 a1, .int .i64 a2, .int .i64 a3, .string a4, .int .i64 a5, .slice A k c, .int .i64 a7, .int .i64 a8, .int .i64 a9, .slice B m d], .agg #[.int .i64 a0, .int .i64 a1, .int .i64 a2, .int .i64 b3, .string b4, .int .i64 b5, .slice A2 k2 c2, .int .i64 b7, .int .i64 b8, .int .i64 b9, .slice B2 m2 d2]] w fun e w2 => e = .returned (.bool false) ∧ Chg Non w w2 := by
  go_enter Try.func14, Try.ntmps14
  go_wp2_with fail
  go_ret
  exact ⟨rfl, ((Chg.refl _ _).alloc _).alloc _⟩

set_option maxRecDepth 100000 in
set_option maxHeartbeats 4000000 in
theorem same_no4 (w : World) (a0 a1 a2 a3 : Int) (a4 : ByteArray) (a5 a7 a8 a9 b0 b1 b2 b3 : Int) (b4 : ByteArray) (b5 b7 b8 b9 : Int) (A : Option Addr) (k c : Nat) (B : Option Addr) (m d : Nat) (A2 : Option Addr) (k2 c2 : Nat) (B2 : Option Addr) (m2 d2 : Nat) (h : (a4.toList == b4.toList) = false) :
    Calls Try.prog 14 #[.agg #[.int .i64 a0, .int .i64 a1, .int .i64 a2, .int .i64 a3, .string a4, .int .i64 a5, .slice A k c, .int .i64 a7, .int .i64 a8, .int .i64 a9, .slice B m d], .agg #[.int .i64 a0, .int .i64 a1, .int .i64 a2, .int .i64 a3, .string b4, .int .i64 b5, .slice A2 k2 c2, .int .i64 b7, .int .i64 b8, .int .i64 b9, .slice B2 m2 d2]] w fun e w2 => e = .returned (.bool false) ∧ Chg Non w w2 := by
  go_enter Try.func14, Try.ntmps14
  go_wp2_with fail
  go_ret
  exact ⟨rfl, ((Chg.refl _ _).alloc _).alloc _⟩

set_option maxRecDepth 100000 in
set_option maxHeartbeats 4000000 in
theorem same_no5 (w : World) (a0 a1 a2 a3 : Int) (a4 : ByteArray) (a5 a7 a8 a9 b0 b1 b2 b3 : Int) (b4 : ByteArray) (b5 b7 b8 b9 : Int) (A : Option Addr) (k c : Nat) (B : Option Addr) (m d : Nat) (A2 : Option Addr) (k2 c2 : Nat) (B2 : Option Addr) (m2 d2 : Nat) (h : (a5 != b5) = true) :
    Calls Try.prog 14 #[.agg #[.int .i64 a0, .int .i64 a1, .int .i64 a2, .int .i64 a3, .string a4, .int .i64 a5, .slice A k c, .int .i64 a7, .int .i64 a8, .int .i64 a9, .slice B m d], .agg #[.int .i64 a0, .int .i64 a1, .int .i64 a2, .int .i64 a3, .string a4, .int .i64 b5, .slice A2 k2 c2, .int .i64 b7, .int .i64 b8, .int .i64 b9, .slice B2 m2 d2]] w fun e w2 => e = .returned (.bool false) ∧ Chg Non w w2 := by
  go_enter Try.func14, Try.ntmps14
  go_wp2_with fail
  go_ret
  exact ⟨rfl, ((Chg.refl _ _).alloc _).alloc _⟩

set_option maxRecDepth 100000 in
set_option maxHeartbeats 4000000 in
theorem same_no7 (w : World) (a0 a1 a2 a3 : Int) (a4 : ByteArray) (a5 a7 a8 a9 b0 b1 b2 b3 : Int) (b4 : ByteArray) (b5 b7 b8 b9 : Int) (A : Option Addr) (k c : Nat) (B : Option Addr) (m d : Nat) (A2 : Option Addr) (k2 c2 : Nat) (B2 : Option Addr) (m2 d2 : Nat) (h : (a7 != b7) = true) :
    Calls Try.prog 14 #[.agg #[.int .i64 a0, .int .i64 a1, .int .i64 a2, .int .i64 a3, .string a4, .int .i64 a5, .slice A k c, .int .i64 a7, .int .i64 a8, .int .i64 a9, .slice B m d], .agg #[.int .i64 a0, .int .i64 a1, .int .i64 a2, .int .i64 a3, .string a4, .int .i64 a5, .slice A2 k2 c2, .int .i64 b7, .int .i64 b8, .int .i64 b9, .slice B2 m2 d2]] w fun e w2 => e = .returned (.bool false) ∧ Chg Non w w2 := by
  go_enter Try.func14, Try.ntmps14
  go_wp2_with fail
  go_ret
  exact ⟨rfl, ((Chg.refl _ _).alloc _).alloc _⟩

set_option maxRecDepth 100000 in
set_option maxHeartbeats 4000000 in
theorem same_no8 (w : World) (a0 a1 a2 a3 : Int) (a4 : ByteArray) (a5 a7 a8 a9 b0 b1 b2 b3 : Int) (b4 : ByteArray) (b5 b7 b8 b9 : Int) (A : Option Addr) (k c : Nat) (B : Option Addr) (m d : Nat) (A2 : Option Addr) (k2 c2 : Nat) (B2 : Option Addr) (m2 d2 : Nat) (h : (a8 != b8) = true) :
    Calls Try.prog 14 #[.agg #[.int .i64 a0, .int .i64 a1, .int .i64 a2, .int .i64 a3, .string a4, .int .i64 a5, .slice A k c, .int .i64 a7, .int .i64 a8, .int .i64 a9, .slice B m d], .agg #[.int .i64 a0, .int .i64 a1, .int .i64 a2, .int .i64 a3, .string a4, .int .i64 a5, .slice A2 k2 c2, .int .i64 a7, .int .i64 b8, .int .i64 b9, .slice B2 m2 d2]] w fun e w2 => e = .returned (.bool false) ∧ Chg Non w w2 := by
  go_enter Try.func14, Try.ntmps14
  go_wp2_with fail
  go_ret
  exact ⟨rfl, ((Chg.refl _ _).alloc _).alloc _⟩

set_option maxRecDepth 100000 in
set_option maxHeartbeats 4000000 in
theorem same_no9 (w : World) (a0 a1 a2 a3 : Int) (a4 : ByteArray) (a5 a7 a8 a9 b0 b1 b2 b3 : Int) (b4 : ByteArray) (b5 b7 b8 b9 : Int) (A : Option Addr) (k c : Nat) (B : Option Addr) (m d : Nat) (A2 : Option Addr) (k2 c2 : Nat) (B2 : Option Addr) (m2 d2 : Nat) (h : (a9 != b9) = true) :
    Calls Try.prog 14 #[.agg #[.int .i64 a0, .int .i64 a1, .int .i64 a2, .int .i64 a3, .string a4, .int .i64 a5, .slice A k c, .int .i64 a7, .int .i64 a8, .int .i64 a9, .slice B m d], .agg #[.int .i64 a0, .int .i64 a1, .int .i64 a2, .int .i64 a3, .string a4, .int .i64 a5, .slice A2 k2 c2, .int .i64 a7, .int .i64 a8, .int .i64 b9, .slice B2 m2 d2]] w fun e w2 => e = .returned (.bool false) ∧ Chg Non w w2 := by
  go_enter Try.func14, Try.ntmps14
  go_wp2_with fail
  go_ret
  exact ⟨rfl, ((Chg.refl _ _).alloc _).alloc _⟩

set_option maxRecDepth 100000 in
set_option maxHeartbeats 4000000 in
theorem same_noM (w : World) (a0 a1 a2 a3 : Int) (a4 : ByteArray) (a5 a7 a8 a9 b0 b1 b2 b3 : Int) (b4 : ByteArray) (b5 b7 b8 b9 : Int) (A : Option Addr) (k c : Nat) (B : Option Addr) (m d : Nat) (A2 : Option Addr) (k2 c2 : Nat) (B2 : Option Addr) (m2 d2 : Nat) (h : m ≠ m2) :
    Calls Try.prog 14 #[.agg #[.int .i64 a0, .int .i64 a1, .int .i64 a2, .int .i64 a3, .string a4, .int .i64 a5, .slice A k c, .int .i64 a7, .int .i64 a8, .int .i64 a9, .slice B m d], .agg #[.int .i64 a0, .int .i64 a1, .int .i64 a2, .int .i64 a3, .string a4, .int .i64 a5, .slice A2 k2 c2, .int .i64 a7, .int .i64 a8, .int .i64 a9, .slice B2 m2 d2]] w fun e w2 => e = .returned (.bool false) ∧ Chg Non w w2 := by
  have hne : ((m : Int) != (m2 : Int)) = true := by rw [bne_iff_ne]; omega
  clear h
  go_enter Try.func14, Try.ntmps14
  go_wp2_with fail
  go_ret
  exact ⟨rfl, ((Chg.refl _ _).alloc _).alloc _⟩

theorem same_any (w : World) (a b : Nt) (A : Option Addr) (k c : Nat) (B : Option Addr) (m d : Nat) (A2 : Option Addr) (k2 c2 : Nat) (B2 : Option Addr) (m2 d2 : Nat) (ha : NtAt w a A k c B m d) (hb : NtAt w b A2 k2 c2 B2 m2 d2) :
    Calls Try.prog 14 #[.agg (NtC a A k c B m d), .agg (NtC b A2 k2 c2 B2 m2 d2)] w fun e w2 => e = .returned (.bool (sameN a b)) ∧ Chg Non w w2 := by
  have hk63 : k ≤ 9223372036854775807 := by have := ha.kc; have := ha.cm; unfold maxLen at this; omega
  have hm63 : m ≤ 9223372036854775807 := by have := ha.md; have := ha.dm; unfold maxLen at this; omega
  have h1 := ha.args
  have h2 := hb.args
  have g1 := ha.mems
  have g2 := hb.mems
  clear ha hb
  obtain ⟨a0, a1, a2, a3, a4, a5, l1, a7, a8, a9, L1⟩ := a
  obtain ⟨b0, b1, b2, b3, b4, b5, l2, b7, b8, b9, L2⟩ := b
  simp only at h1 h2 g1 g2 ⊢
  have no : ∀ (x y : Nt) (w2 : World) (e : Ending), x ≠ y → (e = .returned (.bool false) ∧ Chg Non w w2) → (e = .returned (.bool (sameN x y)) ∧ Chg Non w w2) := fun x y w2 e hn h => ⟨by rw [sameN_ne hn]; exact h.1, h.2⟩
  by_cases h : a0 = b0
  case neg => exact (same_no0 w a0 a1 a2 a3 a4 a5 a7 a8 a9 b0 b1 b2 b3 b4 b5 b7 b8 b9 A k c B m d A2 k2 c2 B2 m2 d2 (bne_iff_ne.2 h)).mono fun e w2 hp => no _ _ w2 e (by intro e; injection e; contradiction) hp
  subst h
  by_cases h : a1 = b1
  case neg => exact (same_no1 w a0 a1 a2 a3 a4 a5 a7 a8 a9 a0 b1 b2 b3 b4 b5 b7 b8 b9 A k c B m d A2 k2 c2 B2 m2 d2 (bne_iff_ne.2 h)).mono fun e w2 hp => no _ _ w2 e (by intro e; injection e; contradiction) hp
  subst h
  by_cases h : a2 = b2
  case neg => exact (same_no2 w a0 a1 a2 a3 a4 a5 a7 a8 a9 a0 a1 b2 b3 b4 b5 b7 b8 b9 A k c B m d A2 k2 c2 B2 m2 d2 (bne_iff_ne.2 h)).mono fun e w2 hp => no _ _ w2 e (by intro e; injection e; contradiction) hp
  subst h
  by_cases h : a3 = b3
  case neg => exact (same_no3 w a0 a1 a2 a3 a4 a5 a7 a8 a9 a0 a1 a2 b3 b4 b5 b7 b8 b9 A k c B m d A2 k2 c2 B2 m2 d2 (bne_iff_ne.2 h)).mono fun e w2 hp => no _ _ w2 e (by intro e; injection e; contradiction) hp
  subst h
  by_cases h : a4 = b4
  case neg => exact (same_no4 w a0 a1 a2 a3 a4 a5 a7 a8 a9 a0 a1 a2 a3 b4 b5 b7 b8 b9 A k c B m d A2 k2 c2 B2 m2 d2 (by rw [beq_eq_false_iff_ne, ByteArray.toList_eq, ByteArray.toList_eq]; exact fun e => h (ByteArray.ext (Array.toList_inj.1 e)))).mono fun e w2 hp => no _ _ w2 e (by intro e; injection e; contradiction) hp
  subst h
  by_cases h : a5 = b5
  case neg => exact (same_no5 w a0 a1 a2 a3 a4 a5 a7 a8 a9 a0 a1 a2 a3 a4 b5 b7 b8 b9 A k c B m d A2 k2 c2 B2 m2 d2 (bne_iff_ne.2 h)).mono fun e w2 hp => no _ _ w2 e (by intro e; injection e; contradiction) hp
  subst h
  by_cases h : a7 = b7
  case neg => exact (same_no7 w a0 a1 a2 a3 a4 a5 a7 a8 a9 a0 a1 a2 a3 a4 a5 b7 b8 b9 A k c B m d A2 k2 c2 B2 m2 d2 (bne_iff_ne.2 h)).mono fun e w2 hp => no _ _ w2 e (by intro e; injection e; contradiction) hp
  subst h
  by_cases h : a8 = b8
  case neg => exact (same_no8 w a0 a1 a2 a3 a4 a5 a7 a8 a9 a0 a1 a2 a3 a4 a5 a7 b8 b9 A k c B m d A2 k2 c2 B2 m2 d2 (bne_iff_ne.2 h)).mono fun e w2 hp => no _ _ w2 e (by intro e; injection e; contradiction) hp
  subst h
  by_cases h : a9 = b9
  case neg => exact (same_no9 w a0 a1 a2 a3 a4 a5 a7 a8 a9 a0 a1 a2 a3 a4 a5 a7 a8 b9 A k c B m d A2 k2 c2 B2 m2 d2 (bne_iff_ne.2 h)).mono fun e w2 hp => no _ _ w2 e (by intro e; injection e; contradiction) hp
  subst h
  by_cases hm : m = m2
  case neg => exact (same_noM w a0 a1 a2 a3 a4 a5 a7 a8 a9 a0 a1 a2 a3 a4 a5 a7 a8 a9 A k c B m d A2 k2 c2 B2 m2 d2 hm).mono fun e w2 hp => no _ _ w2 e (by intro e; injection e; rename_i e9; exact hm (by rw [g1.lenM, g2.lenM, e9])) hp
  subst hm
  refine (same_rows w a0 a1 a2 a3 a4 a5 a7 a8 a9 A k c B m d A2 k2 c2 B2 d2 l1 l2 L1 L2 h1 h2 g1 g2 hk63 hm63).mono ?_
  rintro e w2 ⟨rfl, hC⟩
  refine ⟨?_, hC⟩
  congr 2
  simp [sameN]
end Go.Proofs.Ytclpmadecibofaa
