/-
  gleanerref10.Clear.
-/
import Derived.Test.YtflaliomkfbagaaNotePack
import Derived.Test.YtflaliomkfbagaaMpSmall
namespace Go.Proofs.Ytflaliomkfbagaa
section
open Go.RowKit
set_option linter.unusedVariables false
set_option linter.unusedSimpArgs false

def RefClearPost (w : World) (n : Nt) (A : Option Addr) (k c : Nat) (B : Option Addr) (m d : Nat) (e : Ending) (w2 : World) : Prop :=
  ∃ A2 k2 c2 B2 m2 d2, e = .returned (.agg (NtC n.clear A2 k2 c2 B2 m2 d2)) ∧ (∀ w9, NtAt w9 n A k c B m d → NtAt w9 n.clear A2 k2 c2 B2 m2 d2) ∧ Chg Non w w2

set_option maxRecDepth 100000 in
set_option maxHeartbeats 4000000 in
theorem refClear_1 (w : World) (node life epoch : Int) (id : ByteArray) (fn : Int) (err val vep : Int) (A : Option Addr) (k c : Nat) (B : Option Addr) (m d : Nat) :
    Calls Try.prog 62 #[.agg #[.int .i64 1, .int .i64 node, .int .i64 life, .int .i64 epoch, .string id, .int .i64 fn, .slice A k c, .int .i64 err, .int .i64 val, .int .i64 vep, .slice B m d]] w fun e w2 => e = .returned (.agg #[.int .i64 1, .int .i64 node, .int .i64 life, .int .i64 0, .string ⟨#[]⟩, .int .i64 0, .slice none 0 0, .int .i64 0, .int .i64 0, .int .i64 0, .slice none 0 0]) ∧ Chg Non w w2 := by
  go_enter Try.func62, Try.ntmps62
  go_wp2_with fail
  exact bodyPost_ret (v := .agg #[.int .i64 1, .int .i64 node, .int .i64 life, .int .i64 0, .string ⟨#[]⟩, .int .i64 0, .slice none 0 0, .int .i64 0, .int .i64 0, .int .i64 0, .slice none 0 0]) (by simp [results, Try.results62, go_sem]) rfl ⟨rfl, (((Chg.refl _ _).alloc _).alloc _).alloc _⟩

set_option maxRecDepth 100000 in
set_option maxHeartbeats 4000000 in
theorem refClear_2 (w : World) (node life epoch : Int) (id : ByteArray) (fn : Int) (err val vep : Int) (A : Option Addr) (k c : Nat) (B : Option Addr) (m d : Nat) :
    Calls Try.prog 62 #[.agg #[.int .i64 2, .int .i64 node, .int .i64 life, .int .i64 epoch, .string id, .int .i64 fn, .slice A k c, .int .i64 err, .int .i64 val, .int .i64 vep, .slice B m d]] w fun e w2 => e = .returned (.agg #[.int .i64 2, .int .i64 0, .int .i64 0, .int .i64 0, .string ⟨#[]⟩, .int .i64 0, .slice none 0 0, .int .i64 0, .int .i64 0, .int .i64 vep, .slice B m d]) ∧ Chg Non w w2 := by
  go_enter Try.func62, Try.ntmps62
  go_wp2_with fail
  exact bodyPost_ret (v := .agg #[.int .i64 2, .int .i64 0, .int .i64 0, .int .i64 0, .string ⟨#[]⟩, .int .i64 0, .slice none 0 0, .int .i64 0, .int .i64 0, .int .i64 vep, .slice B m d]) (by simp [results, Try.results62, go_sem]) rfl ⟨rfl, (((Chg.refl _ _).alloc _).alloc _).alloc _⟩

set_option maxRecDepth 100000 in
set_option maxHeartbeats 4000000 in
theorem refClear_3 (w : World) (node life epoch : Int) (id : ByteArray) (fn : Int) (err val vep : Int) (A : Option Addr) (k c : Nat) (B : Option Addr) (m d : Nat) :
    Calls Try.prog 62 #[.agg #[.int .i64 3, .int .i64 node, .int .i64 life, .int .i64 epoch, .string id, .int .i64 fn, .slice A k c, .int .i64 err, .int .i64 val, .int .i64 vep, .slice B m d]] w fun e w2 => e = .returned (.agg #[.int .i64 3, .int .i64 node, .int .i64 0, .int .i64 epoch, .string ⟨#[]⟩, .int .i64 0, .slice none 0 0, .int .i64 0, .int .i64 0, .int .i64 0, .slice none 0 0]) ∧ Chg Non w w2 := by
  go_enter Try.func62, Try.ntmps62
  go_wp2_with fail
  exact bodyPost_ret (v := .agg #[.int .i64 3, .int .i64 node, .int .i64 0, .int .i64 epoch, .string ⟨#[]⟩, .int .i64 0, .slice none 0 0, .int .i64 0, .int .i64 0, .int .i64 0, .slice none 0 0]) (by simp [results, Try.results62, go_sem]) rfl ⟨rfl, (((Chg.refl _ _).alloc _).alloc _).alloc _⟩

set_option maxRecDepth 100000 in
set_option maxHeartbeats 4000000 in
theorem refClear_4 (w : World) (node life epoch : Int) (id : ByteArray) (fn : Int) (err val vep : Int) (A : Option Addr) (k c : Nat) (B : Option Addr) (m d : Nat) :
    Calls Try.prog 62 #[.agg #[.int .i64 4, .int .i64 node, .int .i64 life, .int .i64 epoch, .string id, .int .i64 fn, .slice A k c, .int .i64 err, .int .i64 val, .int .i64 vep, .slice B m d]] w fun e w2 => e = .returned (.agg #[.int .i64 4, .int .i64 0, .int .i64 life, .int .i64 epoch, .string id, .int .i64 fn, .slice A k c, .int .i64 0, .int .i64 0, .int .i64 0, .slice none 0 0]) ∧ Chg Non w w2 := by
  go_enter Try.func62, Try.ntmps62
  go_wp2_with fail
  exact bodyPost_ret (v := .agg #[.int .i64 4, .int .i64 0, .int .i64 life, .int .i64 epoch, .string id, .int .i64 fn, .slice A k c, .int .i64 0, .int .i64 0, .int .i64 0, .slice none 0 0]) (by simp [results, Try.results62, go_sem]) rfl ⟨rfl, (((Chg.refl _ _).alloc _).alloc _).alloc _⟩

set_option maxRecDepth 100000 in
set_option maxHeartbeats 4000000 in
theorem refClear_5 (w : World) (node life epoch : Int) (id : ByteArray) (fn : Int) (err val vep : Int) (A : Option Addr) (k c : Nat) (B : Option Addr) (m d : Nat) :
    Calls Try.prog 62 #[.agg #[.int .i64 5, .int .i64 node, .int .i64 life, .int .i64 epoch, .string id, .int .i64 fn, .slice A k c, .int .i64 err, .int .i64 val, .int .i64 vep, .slice B m d]] w fun e w2 => e = .returned (.agg #[.int .i64 5, .int .i64 node, .int .i64 life, .int .i64 epoch, .string id, .int .i64 0, .slice none 0 0, .int .i64 0, .int .i64 0, .int .i64 0, .slice none 0 0]) ∧ Chg Non w w2 := by
  go_enter Try.func62, Try.ntmps62
  go_wp2_with fail
  exact bodyPost_ret (v := .agg #[.int .i64 5, .int .i64 node, .int .i64 life, .int .i64 epoch, .string id, .int .i64 0, .slice none 0 0, .int .i64 0, .int .i64 0, .int .i64 0, .slice none 0 0]) (by simp [results, Try.results62, go_sem]) rfl ⟨rfl, (((Chg.refl _ _).alloc _).alloc _).alloc _⟩

set_option maxRecDepth 100000 in
set_option maxHeartbeats 4000000 in
theorem refClear_6 (w : World) (node life epoch : Int) (id : ByteArray) (fn : Int) (err val vep : Int) (A : Option Addr) (k c : Nat) (B : Option Addr) (m d : Nat) :
    Calls Try.prog 62 #[.agg #[.int .i64 6, .int .i64 node, .int .i64 life, .int .i64 epoch, .string id, .int .i64 fn, .slice A k c, .int .i64 err, .int .i64 val, .int .i64 vep, .slice B m d]] w fun e w2 => e = .returned (.agg #[.int .i64 6, .int .i64 node, .int .i64 life, .int .i64 epoch, .string id, .int .i64 0, .slice none 0 0, .int .i64 0, .int .i64 0, .int .i64 0, .slice none 0 0]) ∧ Chg Non w w2 := by
  go_enter Try.func62, Try.ntmps62
  go_wp2_with fail
  exact bodyPost_ret (v := .agg #[.int .i64 6, .int .i64 node, .int .i64 life, .int .i64 epoch, .string id, .int .i64 0, .slice none 0 0, .int .i64 0, .int .i64 0, .int .i64 0, .slice none 0 0]) (by simp [results, Try.results62, go_sem]) rfl ⟨rfl, (((Chg.refl _ _).alloc _).alloc _).alloc _⟩

set_option maxRecDepth 100000 in
set_option maxHeartbeats 4000000 in
theorem refClear_7 (w : World) (node life epoch : Int) (id : ByteArray) (fn : Int) (err val vep : Int) (A : Option Addr) (k c : Nat) (B : Option Addr) (m d : Nat) :
    Calls Try.prog 62 #[.agg #[.int .i64 7, .int .i64 node, .int .i64 life, .int .i64 epoch, .string id, .int .i64 fn, .slice A k c, .int .i64 err, .int .i64 val, .int .i64 vep, .slice B m d]] w fun e w2 => e = .returned (.agg #[.int .i64 7, .int .i64 node, .int .i64 0, .int .i64 epoch, .string id, .int .i64 0, .slice none 0 0, .int .i64 err, .int .i64 val, .int .i64 0, .slice none 0 0]) ∧ Chg Non w w2 := by
  go_enter Try.func62, Try.ntmps62
  go_wp2_with fail
  exact bodyPost_ret (v := .agg #[.int .i64 7, .int .i64 node, .int .i64 0, .int .i64 epoch, .string id, .int .i64 0, .slice none 0 0, .int .i64 err, .int .i64 val, .int .i64 0, .slice none 0 0]) (by simp [results, Try.results62, go_sem]) rfl ⟨rfl, (((Chg.refl _ _).alloc _).alloc _).alloc _⟩

set_option maxRecDepth 100000 in
set_option maxHeartbeats 4000000 in
theorem refClear_8 (w : World) (node life epoch : Int) (id : ByteArray) (fn : Int) (err val vep : Int) (A : Option Addr) (k c : Nat) (B : Option Addr) (m d : Nat) :
    Calls Try.prog 62 #[.agg #[.int .i64 8, .int .i64 node, .int .i64 life, .int .i64 epoch, .string id, .int .i64 fn, .slice A k c, .int .i64 err, .int .i64 val, .int .i64 vep, .slice B m d]] w fun e w2 => e = .returned (.agg #[.int .i64 8, .int .i64 0, .int .i64 0, .int .i64 0, .string id, .int .i64 0, .slice none 0 0, .int .i64 err, .int .i64 val, .int .i64 0, .slice none 0 0]) ∧ Chg Non w w2 := by
  go_enter Try.func62, Try.ntmps62
  go_wp2_with fail
  exact bodyPost_ret (v := .agg #[.int .i64 8, .int .i64 0, .int .i64 0, .int .i64 0, .string id, .int .i64 0, .slice none 0 0, .int .i64 err, .int .i64 val, .int .i64 0, .slice none 0 0]) (by simp [results, Try.results62, go_sem]) rfl ⟨rfl, (((Chg.refl _ _).alloc _).alloc _).alloc _⟩

set_option maxRecDepth 100000 in
set_option maxHeartbeats 4000000 in
theorem refClear_9 (w : World) (node life epoch : Int) (id : ByteArray) (fn : Int) (err val vep : Int) (A : Option Addr) (k c : Nat) (B : Option Addr) (m d : Nat) :
    Calls Try.prog 62 #[.agg #[.int .i64 9, .int .i64 node, .int .i64 life, .int .i64 epoch, .string id, .int .i64 fn, .slice A k c, .int .i64 err, .int .i64 val, .int .i64 vep, .slice B m d]] w fun e w2 => e = .returned (.agg #[.int .i64 9, .int .i64 node, .int .i64 0, .int .i64 0, .string id, .int .i64 0, .slice none 0 0, .int .i64 0, .int .i64 0, .int .i64 0, .slice none 0 0]) ∧ Chg Non w w2 := by
  go_enter Try.func62, Try.ntmps62
  go_wp2_with fail
  exact bodyPost_ret (v := .agg #[.int .i64 9, .int .i64 node, .int .i64 0, .int .i64 0, .string id, .int .i64 0, .slice none 0 0, .int .i64 0, .int .i64 0, .int .i64 0, .slice none 0 0]) (by simp [results, Try.results62, go_sem]) rfl ⟨rfl, (((Chg.refl _ _).alloc _).alloc _).alloc _⟩

set_option maxRecDepth 100000 in
set_option maxHeartbeats 4000000 in
theorem refClear_10 (w : World) (node life epoch : Int) (id : ByteArray) (fn : Int) (err val vep : Int) (A : Option Addr) (k c : Nat) (B : Option Addr) (m d : Nat) :
    Calls Try.prog 62 #[.agg #[.int .i64 10, .int .i64 node, .int .i64 life, .int .i64 epoch, .string id, .int .i64 fn, .slice A k c, .int .i64 err, .int .i64 val, .int .i64 vep, .slice B m d]] w fun e w2 => e = .returned (.agg #[.int .i64 10, .int .i64 node, .int .i64 0, .int .i64 epoch, .string id, .int .i64 fn, .slice A k c, .int .i64 0, .int .i64 0, .int .i64 0, .slice none 0 0]) ∧ Chg Non w w2 := by
  go_enter Try.func62, Try.ntmps62
  go_wp2_with fail
  exact bodyPost_ret (v := .agg #[.int .i64 10, .int .i64 node, .int .i64 0, .int .i64 epoch, .string id, .int .i64 fn, .slice A k c, .int .i64 0, .int .i64 0, .int .i64 0, .slice none 0 0]) (by simp [results, Try.results62, go_sem]) rfl ⟨rfl, (((Chg.refl _ _).alloc _).alloc _).alloc _⟩

set_option maxRecDepth 100000 in
set_option maxHeartbeats 4000000 in
theorem refClear_no (w : World) (node life epoch : Int) (id : ByteArray) (fn : Int) (err val vep : Int) (A : Option Addr) (k c : Nat) (B : Option Addr) (m d : Nat) (kd : Int) (hk : kd < 1 ∨ 10 < kd) :
    Calls Try.prog 62 #[.agg #[.int .i64 kd, .int .i64 node, .int .i64 life, .int .i64 epoch, .string id, .int .i64 fn, .slice A k c, .int .i64 err, .int .i64 val, .int .i64 vep, .slice B m d]] w fun e w2 => e = .returned (.agg #[.int .i64 0, .int .i64 0, .int .i64 0, .int .i64 0, .string ⟨#[]⟩, .int .i64 0, .slice none 0 0, .int .i64 0, .int .i64 0, .int .i64 0, .slice none 0 0]) ∧ Chg Non w w2 := by
  rcases hk with hk | hk
  all_goals
    go_enter Try.func62, Try.ntmps62
    go_wp2_with fail
    exact bodyPost_ret (v := .agg #[.int .i64 0, .int .i64 0, .int .i64 0, .int .i64 0, .string ⟨#[]⟩, .int .i64 0, .slice none 0 0, .int .i64 0, .int .i64 0, .int .i64 0, .slice none 0 0]) (by simp [results, Try.results62, go_sem]) rfl ⟨rfl, (((Chg.refl _ _).alloc _).alloc _).alloc _⟩

theorem refClear_any (w : World) (n : Nt) (A : Option Addr) (k c : Nat) (B : Option Addr) (m d : Nat) :
    Calls Try.prog 62 #[.agg (NtC n A k c B m d)] w (RefClearPost w n A k c B m d) := by
  obtain ⟨kd, node, life, epoch, id, fn, args, err, val, vep, mems⟩ := n
  have z1 : (0 : Nat) ≤ maxLen := Nat.zero_le _
  cases hK : isK kd with
  | false =>
    have hc : Nt.clear ⟨kd, node, life, epoch, id, fn, args, err, val, vep, mems⟩ = Nt.zero := by unfold Nt.clear; rw [if_neg (by simp [hK])]
    have hk : kd < 1 ∨ 10 < kd := by unfold isK at hK; simp at hK; omega
    refine (refClear_no w node life epoch id fn err val vep A k c B m d kd hk).mono ?_
    rintro e w2 ⟨rfl, hc2⟩
    unfold RefClearPost
    rw [hc]
    exact ⟨none, 0, 0, none, 0, 0, rfl, fun w9 _ => ⟨zero_ok, Rds.nil_, Nat.le_refl _, z1, Rds.nil_, Nat.le_refl _, z1⟩, hc2⟩
  | true =>
    rcases kinds hK with rfl | rfl | rfl | rfl | rfl | rfl | rfl | rfl | rfl | rfl
    · refine (refClear_1 w node life epoch id fn err val vep A k c B m d).mono ?_
      rintro e w2 ⟨rfl, hc2⟩
      exact ⟨none, 0, 0, none, 0, 0, rfl, fun w9 ⟨hok, ha, ha1, ha2, hb, hb1, hb2⟩ => ⟨clear_ok hok, Rds.nil_, Nat.le_refl _, z1, Rds.nil_, Nat.le_refl _, z1⟩, hc2⟩
    · refine (refClear_2 w node life epoch id fn err val vep A k c B m d).mono ?_
      rintro e w2 ⟨rfl, hc2⟩
      exact ⟨none, 0, 0, B, m, d, rfl, fun w9 ⟨hok, ha, ha1, ha2, hb, hb1, hb2⟩ => ⟨clear_ok hok, Rds.nil_, Nat.le_refl _, z1, hb, hb1, hb2⟩, hc2⟩
    · refine (refClear_3 w node life epoch id fn err val vep A k c B m d).mono ?_
      rintro e w2 ⟨rfl, hc2⟩
      exact ⟨none, 0, 0, none, 0, 0, rfl, fun w9 ⟨hok, ha, ha1, ha2, hb, hb1, hb2⟩ => ⟨clear_ok hok, Rds.nil_, Nat.le_refl _, z1, Rds.nil_, Nat.le_refl _, z1⟩, hc2⟩
    · refine (refClear_4 w node life epoch id fn err val vep A k c B m d).mono ?_
      rintro e w2 ⟨rfl, hc2⟩
      exact ⟨A, k, c, none, 0, 0, rfl, fun w9 ⟨hok, ha, ha1, ha2, hb, hb1, hb2⟩ => ⟨clear_ok hok, ha, ha1, ha2, Rds.nil_, Nat.le_refl _, z1⟩, hc2⟩
    · refine (refClear_5 w node life epoch id fn err val vep A k c B m d).mono ?_
      rintro e w2 ⟨rfl, hc2⟩
      exact ⟨none, 0, 0, none, 0, 0, rfl, fun w9 ⟨hok, ha, ha1, ha2, hb, hb1, hb2⟩ => ⟨clear_ok hok, Rds.nil_, Nat.le_refl _, z1, Rds.nil_, Nat.le_refl _, z1⟩, hc2⟩
    · refine (refClear_6 w node life epoch id fn err val vep A k c B m d).mono ?_
      rintro e w2 ⟨rfl, hc2⟩
      exact ⟨none, 0, 0, none, 0, 0, rfl, fun w9 ⟨hok, ha, ha1, ha2, hb, hb1, hb2⟩ => ⟨clear_ok hok, Rds.nil_, Nat.le_refl _, z1, Rds.nil_, Nat.le_refl _, z1⟩, hc2⟩
    · refine (refClear_7 w node life epoch id fn err val vep A k c B m d).mono ?_
      rintro e w2 ⟨rfl, hc2⟩
      exact ⟨none, 0, 0, none, 0, 0, rfl, fun w9 ⟨hok, ha, ha1, ha2, hb, hb1, hb2⟩ => ⟨clear_ok hok, Rds.nil_, Nat.le_refl _, z1, Rds.nil_, Nat.le_refl _, z1⟩, hc2⟩
    · refine (refClear_8 w node life epoch id fn err val vep A k c B m d).mono ?_
      rintro e w2 ⟨rfl, hc2⟩
      exact ⟨none, 0, 0, none, 0, 0, rfl, fun w9 ⟨hok, ha, ha1, ha2, hb, hb1, hb2⟩ => ⟨clear_ok hok, Rds.nil_, Nat.le_refl _, z1, Rds.nil_, Nat.le_refl _, z1⟩, hc2⟩
    · refine (refClear_9 w node life epoch id fn err val vep A k c B m d).mono ?_
      rintro e w2 ⟨rfl, hc2⟩
      exact ⟨none, 0, 0, none, 0, 0, rfl, fun w9 ⟨hok, ha, ha1, ha2, hb, hb1, hb2⟩ => ⟨clear_ok hok, Rds.nil_, Nat.le_refl _, z1, Rds.nil_, Nat.le_refl _, z1⟩, hc2⟩
    · refine (refClear_10 w node life epoch id fn err val vep A k c B m d).mono ?_
      rintro e w2 ⟨rfl, hc2⟩
      exact ⟨A, k, c, none, 0, 0, rfl, fun w9 ⟨hok, ha, ha1, ha2, hb, hb1, hb2⟩ => ⟨clear_ok hok, ha, ha1, ha2, Rds.nil_, Nat.le_refl _, z1⟩, hc2⟩
end

section
open Go.RowKit
set_option linter.unusedVariables false
set_option linter.unusedSimpArgs false

theorem refNode_any (x : Int) (w : World) : Calls Try.prog 63 #[.int .i64 x] w fun e w2 => e = .returned (.bool (upto 15 x)) ∧ w = w2 := by
  by_cases h0 : x < 0
  · have H := Lib.hid (show upto 15 x = false by unfold upto; rw [decide_eq_false (by omega)]; rfl)
    go_enter Try.func63, Try.ntmps63
    go_wp2_with fail
    go_ret
    exact ⟨by rw [H.out]; rfl, rfl⟩
  · have H := Lib.hid (show upto 15 x = decide (x < 16) by unfold upto; rw [decide_eq_true (show 0 ≤ x by omega), Bool.true_and, decide_eq_decide]; omega)
    go_enter Try.func63, Try.ntmps63
    go_wp2_with fail
    go_ret
    exact ⟨by rw [H.out]; rfl, rfl⟩

theorem refNum_any (x : Int) (w : World) : Calls Try.prog 64 #[.int .i64 x] w fun e w2 => e = .returned (.bool (upto 2147483647 x)) ∧ w = w2 := by
  by_cases h0 : x < 0
  · have H := Lib.hid (show upto 2147483647 x = false by unfold upto; rw [decide_eq_false (by omega)]; rfl)
    go_enter Try.func64, Try.ntmps64
    go_wp2_with fail
    go_ret
    exact ⟨by rw [H.out]; rfl, rfl⟩
  · have H := Lib.hid (show upto 2147483647 x = decide (x ≤ 2147483647) by unfold upto; rw [decide_eq_true (show 0 ≤ x by omega), Bool.true_and])
    go_enter Try.func64, Try.ntmps64
    go_wp2_with fail
    go_ret
    exact ⟨by rw [H.out]; rfl, rfl⟩

theorem refResult_any (w : World) (e v : Int) :
    Calls Try.prog 65 #[.agg #[.int .i64 e, .int .i64 v]] w fun x w2 => x = .returned (.bool (endB e v)) ∧ Chg Non w w2 := by
  obtain ⟨w1, hw1⟩ : ∃ w1, w.alloc (.cells #[.int .i64 e, .int .i64 v] 54) = w1 := ⟨_, rfl⟩
  have hC : Chg Non w w1 := hw1 ▸ (Chg.refl _ _).alloc _
  have hb : Blk w1 w.heap.size 54 #[.int .i64 e, .int .i64 v] := hw1 ▸ Blk.new _ _ _
  have c0 := hb.cell 0
  have c1 := hb.cell 1
  simp only [List.getElem?_toArray, List.getElem?_cons_zero, List.getElem?_cons_succ] at c0 c1
  have hcase : e = 0 ∨ e = 25 ∨ (e < 20 ∧ e ≠ 0) ∨ 25 < e ∨ (20 ≤ e ∧ e < 25) := by omega
  rcases hcase with h | h | ⟨h, h'⟩ | h | ⟨h, h'⟩
  · subst h
    have hE := Lib.hid (show endB 0 v = true from rfl)
    go_enter Try.func65, Try.ntmps65
    go_wp2_with fail
    go_ret
    exact ⟨by rw [hE.out]; rfl, hC⟩
  · subst h
    have hE := Lib.hid (show endB 25 v = true from rfl)
    go_enter Try.func65, Try.ntmps65
    go_wp2_with fail
    go_ret
    exact ⟨by rw [hE.out]; rfl, hC⟩
  · have t0 : (e == 0) = false := beq_eq_false_iff_ne.2 h'
    have t1 : (e == 25) = false := beq_eq_false_iff_ne.2 (by omega)
    have hE : endB e v = false := by unfold endB; rw [t0, t1, decide_eq_false (by omega)]; rfl
    have HE := Lib.hid hE
    clear hE
    go_enter Try.func65, Try.ntmps65
    go_wp2_with fail
    go_ret
    exact ⟨by rw [HE.out]; rfl, hC⟩
  · have t0 : (e == 0) = false := beq_eq_false_iff_ne.2 (by omega)
    have t1 : (e == 25) = false := beq_eq_false_iff_ne.2 (by omega)
    have hE : endB e v = false := by unfold endB; rw [t0, t1, decide_eq_true (show 20 ≤ e by omega), decide_eq_false (show ¬ e < 25 by omega)]; rfl
    have HE := Lib.hid hE
    clear hE
    go_enter Try.func65, Try.ntmps65
    go_wp2_with fail
    go_ret
    exact ⟨by rw [HE.out]; rfl, hC⟩
  · have t0 : (e == 0) = false := beq_eq_false_iff_ne.2 (by omega)
    have t1 : (e == 25) = false := beq_eq_false_iff_ne.2 (by omega)
    have hE : endB e v = (v == 0) := by unfold endB; rw [t0, t1, decide_eq_true h, decide_eq_true h']; rfl
    have HE := Lib.hid hE
    clear hE
    go_enter Try.func65, Try.ntmps65
    go_wp2_with fail
    go_ret
    exact ⟨by rw [HE.out]; rfl, hC⟩

set_option maxRecDepth 100000 in
set_option maxHeartbeats 2000000 in
theorem refView_any (w : World) (ep : Int) (A : Option Addr) (n c : Nat) (L : List Mb) (h1 : Rds w 2 A n (mv L)) (hn : n ≤ 9223372036854775807) :
    Calls Try.prog 66 #[.agg #[.int .i64 ep, .slice A n c]] w fun e w2 => e = .returned (.bool (upto great ep && viewB L)) ∧ Chg Non w w2 := by
  have Hnl := Lib.hid h1.lenM
  obtain ⟨w1, hw1⟩ : ∃ w1, w.alloc (.cells #[.int .i64 ep, .slice A n c] 57) = w1 := ⟨_, rfl⟩
  have hC1 : Chg Non w w1 := hw1 ▸ (Chg.refl _ _).alloc _
  have hb1 : Blk w1 w.heap.size 57 #[.int .i64 ep, .slice A n c] := hw1 ▸ Blk.new _ _ _
  have hr1 := h1.non hC1
  have x0 := hb1.cell 0
  have x1 := hb1.cell 1
  simp only [List.getElem?_toArray, List.getElem?_cons_zero, List.getElem?_cons_succ] at x0 x1
  clear h1
  go_enter Try.func66, Try.ntmps66
  go_wp2_with fail
  refine (refNum_any ep _).mono ?_
  rintro e w9 ⟨rfl, rfl⟩
  clear hw1
  cases he : upto 2147483647 ep with
  | false =>
    have Hno : Hid ((upto great ep && viewB L) = false) := by show _ = _; rw [show upto great ep = false from he]; rfl
    clear he
    go_wp2_with fail
    go_ret
    exact ⟨by rw [Hno.out]; rfl, hC1⟩
  | true =>
    have He : Hid (upto great ep = true) := he
    clear he
    by_cases h16 : 16 < n
    · have Hno : Hid ((upto great ep && viewB L) = false) := by show _ = _; unfold viewB; rw [show decide (L.length ≤ 16) = false from decide_eq_false (by have := Hnl.out; omega)]; simp
      go_wp2_with fail
      go_ret
      exact ⟨by rw [Hno.out]; rfl, hC1⟩
    · have Hr := Lib.hid hr1
      clear hr1 x0 x1
      have x1 := hb1.cell 1
      simp only [List.getElem?_toArray, List.getElem?_cons_zero, List.getElem?_cons_succ] at x1
      go_wp2_with fail
      clear x1
      go_loopw [3] (fun i wr => ∃ k : Nat, k ≤ n ∧ i = .int .i64 k ∧ Hid (memsB (-1) L = memsB (lastM L k) (L.drop k)) ∧ Chg Non w1 wr) (fun i _ => n - (intOf i).toNat)
      case atStart => exact ⟨0, Nat.zero_le _, rfl, rfl, Chg.refl _ _⟩
      case round =>
        obtain ⟨k, hk, rfl, hok, hCr⟩ := hrel
        have hbr := hb1.non hCr
        have x1 := hbr.cell 1
        simp only [List.getElem?_toArray, List.getElem?_cons_zero, List.getElem?_cons_succ] at x1
        by_cases hlt : k < n
        · obtain ⟨ad, m, rfl, hx, hc0, hc1⟩ := Hr.out.getM hlt
          have a0 := hCr.cell hc0 id
          have a1 := hCr.cell hc1 id
          have hst := memsB_drop hx (lastM L k)
          have hls := lastM_succ hx
          obtain ⟨w2, hw2⟩ : ∃ w9, wr.alloc (.cells #[.int .i64 m.1, .int .i64 m.2] 116) = w9 := ⟨_, rfl⟩
          have hc2 : Chg Non wr w2 := hw2 ▸ (Chg.refl _ _).alloc _
          have hb2 : Blk w2 wr.heap.size 116 #[.int .i64 m.1, .int .i64 m.2] := hw2 ▸ Blk.new _ _ _
          have hC2 := hCr.non hc2
          have hCw := hC1.non hC2
          have hCx := hC2
          have b0 := hb2.cell 0
          have b1 := hb2.cell 1
          simp only [List.getElem?_toArray, List.getElem?_cons_zero, List.getElem?_cons_succ] at b0 b1
          have hbv := hbr.non hc2
          have v1 := hbv.cell 1
          simp only [List.getElem?_toArray, List.getElem?_cons_zero, List.getElem?_cons_succ] at v1
          have hno : memsB (-1) L = false → Hid ((upto great ep && viewB L) = false) := fun h => by show _ = _; unfold viewB; rw [h]; simp
          have Hst := Lib.hid hst
          have Hls := Lib.hid hls
          have Hx := Lib.hid hx
          have hc9 := hc2
          clear hst hls hx hc2 hC2 hb2 hbv hbr
          cases t1 : upto 15 m.1 with
          | false =>
            have Hno := hno (by rw [hok.out, Hst.out, t1]; simp)
            clear hno
            go_wp2_with fail
            go_quiet (first | (go_at_call 63; exact quietW (refNode_any m.1 _)) | (go_at_call 64; exact quietW (refNum_any m.2 _)))
            go_wp2_with fail
            go_ret
            exact ⟨by rw [Hno.out]; rfl, hCw.drewN _⟩
          | true =>
            cases t2 : upto 2147483647 m.2 with
            | false =>
              have Hno := hno (by rw [hok.out, Hst.out, show upto great m.2 = false from t2]; simp)
              clear hno
              go_wp2_with fail
              go_quiet (first | (go_at_call 63; exact quietW (refNode_any m.1 _)) | (go_at_call 64; exact quietW (refNum_any m.2 _)))
              go_wp2_with fail
              go_ret
              exact ⟨by rw [Hno.out]; rfl, hCw.drewN _⟩
            | true =>
              have ht1 := upto_iff.1 t1
              rcases k with _ | j
              · have hyes : Hid (memsB (-1) L = memsB (lastM L (0 + 1)) (L.drop (0 + 1))) := by
                  show _ = _
                  rw [hok.out, Hst.out, t1, show upto great m.2 = true from t2, Hls.out, show decide (lastM L 0 < m.1) = true from decide_eq_true (by show -1 < m.1; omega)]
                  simp
                rw [Nat.zero_mul, addr_add0] at a0 a1
                clear hno hok Hst
                go_wp2_with fail
                go_quiet (first | (go_at_call 63; exact quietW (refNode_any m.1 _)) | (go_at_call 64; exact quietW (refNum_any m.2 _)))
                go_wp2_with fail
                go_roundw
                case rel => exact ⟨0 + 1, by omega, by go_num, hyes, hCx.drewN _⟩
                case measure => simp [intOf]; omega
              · obtain ⟨ad2, m2, e2, hx2, hd0, hd1⟩ := Hr.out.getM (k := j) (by omega)
                cases e2
                have hlast : lastM L (j + 1) = m2.1 := lastM_succ hx2
                have d0 := hc9.cell (hCr.cell hd0 id) id
                have hs1 : IntKind.i64.wrap (((j + 1 : Nat) : Int) - 1) = (j : Int) := by rw [IntKind.wrap_i64]; omega
                clear hx2 hd0 hd1
                by_cases hord : m2.1 < m.1
                · have hyes : Hid (memsB (-1) L = memsB (lastM L (j + 1 + 1)) (L.drop (j + 1 + 1))) := by
                    show _ = _
                    rw [hok.out, Hst.out, t1, show upto great m.2 = true from t2, Hls.out, hlast, decide_eq_true hord]
                    simp
                  clear hno hok Hst hlast
                  go_wp2_with fail
                  go_quiet (first | (go_at_call 63; exact quietW (refNode_any m.1 _)) | (go_at_call 64; exact quietW (refNum_any m.2 _)))
                  go_wp2_with fail
                  go_roundw
                  case rel => exact ⟨j + 1 + 1, by omega, by go_num, hyes, hCx.drewN _⟩
                  case measure => simp [intOf]; omega
                · have Hno := hno (by rw [hok.out, Hst.out, hlast, decide_eq_false hord]; rfl)
                  clear hno hlast
                  go_wp2_with fail
                  go_quiet (first | (go_at_call 63; exact quietW (refNode_any m.1 _)) | (go_at_call 64; exact quietW (refNum_any m.2 _)))
                  go_wp2_with fail
                  go_ret
                  exact ⟨by rw [Hno.out]; rfl, hCw.drewN _⟩
        · obtain rfl : k = n := by omega
          have hyes : Hid ((upto great ep && viewB L) = true) := by
            show _ = _
            have hz : L.drop k = [] := List.drop_of_length_le (by have := Hnl.out; omega)
            have hall : memsB (-1) L = true := by rw [hok.out, hz]; rfl
            unfold viewB
            rw [He.out, hall, decide_eq_true (by have := Hnl.out; omega)]
            rfl
          have hCw := hC1.non hCr
          clear hok
          go_wp2_with fail
          go_ret
          exact ⟨by rw [hyes.out]; rfl, hCw⟩
end

section
open Go.RowKit
set_option linter.unusedVariables false
set_option linter.unusedSimpArgs false

theorem clear_kinds (n : Nt) : n.clear.kind = 0 ∨ isK n.clear.kind = true := by
  cases h : isK n.kind with
  | false => left; have : n.clear = Nt.zero := by { unfold Nt.clear; rw [if_neg (by simp [h])] }; rw [this]; rfl
  | true => right; rw [clear_kind n h]; exact h

set_option maxRecDepth 100000 in
set_option maxHeartbeats 4000000 in
theorem refMay_any (w : World) (n : Nt) (A : Option Addr) (k c : Nat) (B : Option Addr) (m d : Nat) (h : NtAt w n A k c B m d) :
    Calls Try.prog 51 #[.agg (NtC n A k c B m d)] w fun e w2 => e = .returned (.bool n.clear.may) ∧ Chg Non w w2 := by
  obtain ⟨w1, hw1⟩ : ∃ w1, w.alloc (.cells (NtC n A k c B m d) 59) = w1 := ⟨_, rfl⟩
  have hC1 : Chg Non w w1 := hw1 ▸ (Chg.refl _ _).alloc _
  have hb1 : Blk w1 w.heap.size 59 (NtC n A k c B m d) := hw1 ▸ Blk.new _ _ _
  have hs1 := hC1.size
  have hCk := clear_kinds n
  obtain ⟨C, hCe⟩ : ∃ C, n.clear = C := ⟨_, rfl⟩
  have x0 := hb1.cell 0
  have x1 := hb1.cell 1
  have x2 := hb1.cell 2
  have x3 := hb1.cell 3
  have x4 := hb1.cell 4
  have x5 := hb1.cell 5
  have x6 := hb1.cell 6
  have x7 := hb1.cell 7
  have x8 := hb1.cell 8
  have x9 := hb1.cell 9
  have x10 := hb1.cell 10
  simp only [NtC, List.getElem?_toArray, List.getElem?_cons_zero, List.getElem?_cons_succ] at x0 x1 x2 x3 x4 x5 x6 x7 x8 x9 x10
  unfold NtC at hw1
  go_enter Try.func51, Try.ntmps51
  go_wp2_with fail
  refine (refClear_any _ n A k c B m d).mono ?_
  rintro e w3 ⟨A3, k3, c3, B3, m3, d3, rfl, hat, hc3⟩
  rw [hCe] at hCk ⊢
  simp only [hCe] at hat
  have HCe := Lib.hid hCe
  clear hCe
  have hb3 := hb1.non hc3
  have hC3 := hC1.non hc3
  have hatw := hat w h
  clear hw1 hb1 hC1 hc3 h hat x0 x1 x2 x3 x4 x5 x6 x7 x8 x9 x10
  have x0 := hb3.cell 0
  have x1 := hb3.cell 1
  have x2 := hb3.cell 2
  have x3 := hb3.cell 3
  have x4 := hb3.cell 4
  have x5 := hb3.cell 5
  have x6 := hb3.cell 6
  have x7 := hb3.cell 7
  have x8 := hb3.cell 8
  have x9 := hb3.cell 9
  have x10 := hb3.cell 10
  simp only [NtC, List.getElem?_toArray, List.getElem?_cons_zero, List.getElem?_cons_succ] at x0 x1 x2 x3 x4 x5 x6 x7 x8 x9 x10
  have f0 := hb3.frozen 0
  have f1 := hb3.frozen 1
  have f2 := hb3.frozen 2
  have f3 := hb3.frozen 3
  have f4 := hb3.frozen 4
  have f5 := hb3.frozen 5
  have f6 := hb3.frozen 6
  have f7 := hb3.frozen 7
  have f8 := hb3.frozen 8
  have f9 := hb3.frozen 9
  have f10 := hb3.frozen 10
  go_wp2_with fail
  clear x0 x1 x2 x3 x4 x5 x6 x7 x8 x9 x10 f0 f1 f2 f3 f4 f5 f6 f7 f8 f9 f10
  obtain ⟨w4, hw4⟩ : ∃ w4, (((((((((((w3.setCell ⟨w.heap.size, 0, none⟩ (.int .i64 C.kind)).setCell ⟨w.heap.size, 1, none⟩ (.int .i64 C.node)).setCell ⟨w.heap.size, 2, none⟩ (.int .i64 C.life)).setCell ⟨w.heap.size, 3, none⟩ (.int .i64 C.epoch)).setCell ⟨w.heap.size, 4, none⟩ (.string C.id)).setCell ⟨w.heap.size, 5, none⟩ (.int .i64 C.fn)).setCell ⟨w.heap.size, 6, none⟩ (.slice A3 k3 c3)).setCell ⟨w.heap.size, 7, none⟩ (.int .i64 C.err)).setCell ⟨w.heap.size, 8, none⟩ (.int .i64 C.val)).setCell ⟨w.heap.size, 9, none⟩ (.int .i64 C.vep)).setCell ⟨w.heap.size, 10, none⟩ (.slice B3 m3 d3)) = w4 := ⟨_, rfl⟩
  have hE : Chg (fun b => b = w.heap.size) w3 w4 := hw4 ▸ chg11 w3 w.heap.size (.int .i64 C.kind) (.int .i64 C.node) (.int .i64 C.life) (.int .i64 C.epoch) (.string C.id) (.int .i64 C.fn) (.slice A3 k3 c3) (.int .i64 C.err) (.int .i64 C.val) (.int .i64 C.vep) (.slice B3 m3 d3)
  have hb4 : Blk w4 w.heap.size 59 (NtC C A3 k3 c3 B3 m3 d3) := hw4 ▸ hb3.put11 (.int .i64 C.kind) (.int .i64 C.node) (.int .i64 C.life) (.int .i64 C.epoch) (.string C.id) (.int .i64 C.fn) (.slice A3 k3 c3) (.int .i64 C.err) (.int .i64 C.val) (.int .i64 C.vep) (.slice B3 m3 d3)
  have hC4 := hC3.trans2 hE (fun b e => .inr (by have e : b = w.heap.size := e; omega))
  have h4 := hatw.non hC4
  rw [hw4]
  clear hw4 hE hb3 hC3 hatw
  have hkl := h4.args.lenMap
  have hml := h4.mems.lenM
  have hk63 : k3 ≤ 9223372036854775807 := by have := h4.kc; have := h4.cm; unfold maxLen at this; omega
  have hm63 : m3 ≤ 9223372036854775807 := by have := h4.md; have := h4.dm; unfold maxLen at this; omega
  have Hkl := Lib.hid hkl
  have Hml := Lib.hid hml
  have hmems := h4.mems
  have hids := h4.ok.id
  clear hkl hml h4
  have x0 := hb4.cell 0
  have x1 := hb4.cell 1
  have x2 := hb4.cell 2
  have x3 := hb4.cell 3
  have x4 := hb4.cell 4
  have x5 := hb4.cell 5
  have x6 := hb4.cell 6
  have x7 := hb4.cell 7
  have x8 := hb4.cell 8
  have x9 := hb4.cell 9
  have x10 := hb4.cell 10
  simp only [NtC, List.getElem?_toArray, List.getElem?_cons_zero, List.getElem?_cons_succ] at x0 x1 x2 x3 x4 x5 x6 x7 x8 x9 x10
  go_wp2_with fail
  clear x0 x1 x2 x3 x4 x5 x6 x7 x8 x9 x10
  refine (refValid_any C.id _ (by unfold maxLen at hids; omega)).mono ?_
  rintro e w9 ⟨rfl, rfl⟩
  obtain ⟨vi, hvi⟩ : ∃ vi, vid C.id = vi := ⟨_, rfl⟩
  rw [hvi]
  rcases hCk with hk0 | hK
  · have hno : C.may = false := by unfold Nt.may; rw [hk0]; rfl
    have Hno := Lib.hid hno
    have x0 := hb4.cell 0
    have x1 := hb4.cell 1
    have x2 := hb4.cell 2
    have x3 := hb4.cell 3
    have x4 := hb4.cell 4
    have x5 := hb4.cell 5
    have x6 := hb4.cell 6
    have x7 := hb4.cell 7
    have x8 := hb4.cell 8
    have x9 := hb4.cell 9
    have x10 := hb4.cell 10
    simp only [NtC, List.getElem?_toArray, List.getElem?_cons_zero, List.getElem?_cons_succ] at x0 x1 x2 x3 x4 x5 x6 x7 x8 x9 x10
    rw [hk0] at x0
    clear hno hvi hk0
    go_wp2_with fail
    go_ret
    exact ⟨by rw [HCe.out, Hno.out]; rfl, hC4⟩
  have hkn : (C.kind != 0) = true := by rw [bne_iff_ne]; have := isK_iff.1 hK; omega
  have x0 := hb4.cell 0
  have x1 := hb4.cell 1
  have x2 := hb4.cell 2
  have x3 := hb4.cell 3
  have x4 := hb4.cell 4
  have x5 := hb4.cell 5
  have x6 := hb4.cell 6
  have x7 := hb4.cell 7
  have x8 := hb4.cell 8
  have x9 := hb4.cell 9
  have x10 := hb4.cell 10
  simp only [NtC, List.getElem?_toArray, List.getElem?_cons_zero, List.getElem?_cons_succ] at x0 x1 x2 x3 x4 x5 x6 x7 x8 x9 x10
  have HhK := Lib.hid hK
  have Hhvi := Lib.hid hvi
  clear hK hvi
  go_wp2_with fail
  clear x0 x1 x2 x3 x4 x5 x6 x7 x8 x9 x10
  have hK := HhK.out
  have hvi := Hhvi.out
  clear HhK Hhvi
  refine (refNode_any C.node _).mono ?_
  rintro e w9 ⟨rfl, rfl⟩
  cases h1 : upto 15 C.node with
  | false =>
    have x0 := hb4.cell 0
    have x1 := hb4.cell 1
    have x2 := hb4.cell 2
    have x3 := hb4.cell 3
    have x4 := hb4.cell 4
    have x5 := hb4.cell 5
    have x6 := hb4.cell 6
    have x7 := hb4.cell 7
    have x8 := hb4.cell 8
    have x9 := hb4.cell 9
    have x10 := hb4.cell 10
    simp only [NtC, List.getElem?_toArray, List.getElem?_cons_zero, List.getElem?_cons_succ] at x0 x1 x2 x3 x4 x5 x6 x7 x8 x9 x10
    have hno : C.may = false := by unfold Nt.may; simp [hK, hvi, h1]
    have Hno := Lib.hid hno
    clear hno hK hvi h1
    go_wp2_with fail
    go_ret
    exact ⟨by rw [HCe.out, Hno.out]; rfl, hC4⟩
  | true =>
    have x0 := hb4.cell 0
    have x1 := hb4.cell 1
    have x2 := hb4.cell 2
    have x3 := hb4.cell 3
    have x4 := hb4.cell 4
    have x5 := hb4.cell 5
    have x6 := hb4.cell 6
    have x7 := hb4.cell 7
    have x8 := hb4.cell 8
    have x9 := hb4.cell 9
    have x10 := hb4.cell 10
    simp only [NtC, List.getElem?_toArray, List.getElem?_cons_zero, List.getElem?_cons_succ] at x0 x1 x2 x3 x4 x5 x6 x7 x8 x9 x10
    have HhK := Lib.hid hK
    have Hhvi := Lib.hid hvi
    have Hh1 := Lib.hid h1
    clear hK hvi h1
    go_wp2_with fail
    clear x0 x1 x2 x3 x4 x5 x6 x7 x8 x9 x10
    have hK := HhK.out
    have hvi := Hhvi.out
    have h1 := Hh1.out
    clear HhK Hhvi Hh1
    refine (refNum_any C.life _).mono ?_
    rintro e w9 ⟨rfl, rfl⟩
    cases h2 : upto 2147483647 C.life with
    | false =>
      have x0 := hb4.cell 0
      have x1 := hb4.cell 1
      have x2 := hb4.cell 2
      have x3 := hb4.cell 3
      have x4 := hb4.cell 4
      have x5 := hb4.cell 5
      have x6 := hb4.cell 6
      have x7 := hb4.cell 7
      have x8 := hb4.cell 8
      have x9 := hb4.cell 9
      have x10 := hb4.cell 10
      simp only [NtC, List.getElem?_toArray, List.getElem?_cons_zero, List.getElem?_cons_succ] at x0 x1 x2 x3 x4 x5 x6 x7 x8 x9 x10
      have hno : C.may = false := by unfold Nt.may; simp [hK, hvi, h1, h2]
      have Hno := Lib.hid hno
      clear hno hK hvi h1 h2
      go_wp2_with fail
      go_ret
      exact ⟨by rw [HCe.out, Hno.out]; rfl, hC4⟩
    | true =>
      have x0 := hb4.cell 0
      have x1 := hb4.cell 1
      have x2 := hb4.cell 2
      have x3 := hb4.cell 3
      have x4 := hb4.cell 4
      have x5 := hb4.cell 5
      have x6 := hb4.cell 6
      have x7 := hb4.cell 7
      have x8 := hb4.cell 8
      have x9 := hb4.cell 9
      have x10 := hb4.cell 10
      simp only [NtC, List.getElem?_toArray, List.getElem?_cons_zero, List.getElem?_cons_succ] at x0 x1 x2 x3 x4 x5 x6 x7 x8 x9 x10
      have HhK := Lib.hid hK
      have Hhvi := Lib.hid hvi
      have Hh1 := Lib.hid h1
      have Hh2 := Lib.hid h2
      clear hK hvi h1 h2
      go_wp2_with fail
      clear x0 x1 x2 x3 x4 x5 x6 x7 x8 x9 x10
      have hK := HhK.out
      have hvi := Hhvi.out
      have h1 := Hh1.out
      have h2 := Hh2.out
      clear HhK Hhvi Hh1 Hh2
      refine (refNum_any C.epoch _).mono ?_
      rintro e w9 ⟨rfl, rfl⟩
      cases h3 : upto 2147483647 C.epoch with
      | false =>
        have x0 := hb4.cell 0
        have x1 := hb4.cell 1
        have x2 := hb4.cell 2
        have x3 := hb4.cell 3
        have x4 := hb4.cell 4
        have x5 := hb4.cell 5
        have x6 := hb4.cell 6
        have x7 := hb4.cell 7
        have x8 := hb4.cell 8
        have x9 := hb4.cell 9
        have x10 := hb4.cell 10
        simp only [NtC, List.getElem?_toArray, List.getElem?_cons_zero, List.getElem?_cons_succ] at x0 x1 x2 x3 x4 x5 x6 x7 x8 x9 x10
        have hno : C.may = false := by unfold Nt.may; simp [hK, hvi, h1, h2, h3]
        have Hno := Lib.hid hno
        clear hno hK hvi h1 h2 h3
        go_wp2_with fail
        go_ret
        exact ⟨by rw [HCe.out, Hno.out]; rfl, hC4⟩
      | true =>
        cases vi with
        | false =>
          have x0 := hb4.cell 0
          have x1 := hb4.cell 1
          have x2 := hb4.cell 2
          have x3 := hb4.cell 3
          have x4 := hb4.cell 4
          have x5 := hb4.cell 5
          have x6 := hb4.cell 6
          have x7 := hb4.cell 7
          have x8 := hb4.cell 8
          have x9 := hb4.cell 9
          have x10 := hb4.cell 10
          simp only [NtC, List.getElem?_toArray, List.getElem?_cons_zero, List.getElem?_cons_succ] at x0 x1 x2 x3 x4 x5 x6 x7 x8 x9 x10
          have hno : C.may = false := by unfold Nt.may; simp [hK, hvi, h1, h2, h3]
          have Hno := Lib.hid hno
          clear hno hK hvi h1 h2 h3
          go_wp2_with fail
          go_ret
          exact ⟨by rw [HCe.out, Hno.out]; rfl, hC4⟩
        | true =>
          by_cases h4 : 0 ≤ C.fn
          case neg =>
            have x0 := hb4.cell 0
            have x1 := hb4.cell 1
            have x2 := hb4.cell 2
            have x3 := hb4.cell 3
            have x4 := hb4.cell 4
            have x5 := hb4.cell 5
            have x6 := hb4.cell 6
            have x7 := hb4.cell 7
            have x8 := hb4.cell 8
            have x9 := hb4.cell 9
            have x10 := hb4.cell 10
            simp only [NtC, List.getElem?_toArray, List.getElem?_cons_zero, List.getElem?_cons_succ] at x0 x1 x2 x3 x4 x5 x6 x7 x8 x9 x10
            have hno : C.may = false := by unfold Nt.may; rw [show upto 31 C.fn = false from by unfold upto; rw [decide_eq_false h4]; rfl]; simp
            have Hno := Lib.hid hno
            clear hno hK hvi h1 h2 h3
            go_wp2_with fail
            go_ret
            exact ⟨by rw [HCe.out, Hno.out]; rfl, hC4⟩
          by_cases h5 : C.fn < 32
          case neg =>
            have x0 := hb4.cell 0
            have x1 := hb4.cell 1
            have x2 := hb4.cell 2
            have x3 := hb4.cell 3
            have x4 := hb4.cell 4
            have x5 := hb4.cell 5
            have x6 := hb4.cell 6
            have x7 := hb4.cell 7
            have x8 := hb4.cell 8
            have x9 := hb4.cell 9
            have x10 := hb4.cell 10
            simp only [NtC, List.getElem?_toArray, List.getElem?_cons_zero, List.getElem?_cons_succ] at x0 x1 x2 x3 x4 x5 x6 x7 x8 x9 x10
            have hno : C.may = false := by unfold Nt.may; rw [show upto 31 C.fn = false from by unfold upto; rw [decide_eq_false (show ¬ C.fn ≤ 31 by omega)]; simp]; simp
            have Hno := Lib.hid hno
            clear hno hK hvi h1 h2 h3
            go_wp2_with fail
            go_ret
            exact ⟨by rw [HCe.out, Hno.out]; rfl, hC4⟩
          have h45 : upto 31 C.fn = true := by rw [upto_iff]; omega
          by_cases h6 : k3 ≤ 8
          case neg =>
            have x0 := hb4.cell 0
            have x1 := hb4.cell 1
            have x2 := hb4.cell 2
            have x3 := hb4.cell 3
            have x4 := hb4.cell 4
            have x5 := hb4.cell 5
            have x6 := hb4.cell 6
            have x7 := hb4.cell 7
            have x8 := hb4.cell 8
            have x9 := hb4.cell 9
            have x10 := hb4.cell 10
            simp only [NtC, List.getElem?_toArray, List.getElem?_cons_zero, List.getElem?_cons_succ] at x0 x1 x2 x3 x4 x5 x6 x7 x8 x9 x10
            have hno : C.may = false := by unfold Nt.may; rw [show decide (C.args.length ≤ 8) = false from decide_eq_false (by have := Hkl.out; omega)]; simp
            have Hno := Lib.hid hno
            clear hno hK hvi h1 h2 h3 h45
            go_wp2_with fail
            go_ret
            exact ⟨by rw [HCe.out, Hno.out]; rfl, hC4⟩
          have h66 : decide (C.args.length ≤ 8) = true := decide_eq_true (by have := Hkl.out; omega)
          have x0 := hb4.cell 0
          have x1 := hb4.cell 1
          have x2 := hb4.cell 2
          have x3 := hb4.cell 3
          have x4 := hb4.cell 4
          have x5 := hb4.cell 5
          have x6 := hb4.cell 6
          have x7 := hb4.cell 7
          have x8 := hb4.cell 8
          have x9 := hb4.cell 9
          have x10 := hb4.cell 10
          simp only [NtC, List.getElem?_toArray, List.getElem?_cons_zero, List.getElem?_cons_succ] at x0 x1 x2 x3 x4 x5 x6 x7 x8 x9 x10
          have HhK := Lib.hid hK
          have Hhvi := Lib.hid hvi
          have Hh1 := Lib.hid h1
          have Hh2 := Lib.hid h2
          have Hh3 := Lib.hid h3
          have Hh45 := Lib.hid h45
          have Hh66 := Lib.hid h66
          clear hK hvi h1 h2 h3 h45 h66
          go_wp2_with fail
          clear x0 x1 x2 x3 x4 x5 x6 x7 x8 x9 x10
          have hK := HhK.out
          have hvi := Hhvi.out
          have h1 := Hh1.out
          have h2 := Hh2.out
          have h3 := Hh3.out
          have h45 := Hh45.out
          have h66 := Hh66.out
          clear HhK Hhvi Hh1 Hh2 Hh3 Hh45 Hh66
          refine (refResult_any _ C.err C.val).mono ?_
          rintro e w5 ⟨rfl, hc5⟩
          have hC5 := hC4.non hc5
          have hb5 := hb4.non hc5
          clear hC4 hb4
          cases h7 : endB C.err C.val with
          | false =>
            have x0 := hb5.cell 0
            have x1 := hb5.cell 1
            have x2 := hb5.cell 2
            have x3 := hb5.cell 3
            have x4 := hb5.cell 4
            have x5 := hb5.cell 5
            have x6 := hb5.cell 6
            have x7 := hb5.cell 7
            have x8 := hb5.cell 8
            have x9 := hb5.cell 9
            have x10 := hb5.cell 10
            simp only [NtC, List.getElem?_toArray, List.getElem?_cons_zero, List.getElem?_cons_succ] at x0 x1 x2 x3 x4 x5 x6 x7 x8 x9 x10
            have hno : C.may = false := by unfold Nt.may; simp [hK, hvi, h1, h2, h3, h45, h66, h7]
            have Hno := Lib.hid hno
            clear hno hK hvi h1 h2 h3 h45 h66 h7
            go_wp2_with fail
            go_ret
            exact ⟨by rw [HCe.out, Hno.out]; rfl, hC5⟩
          | true =>
            have x0 := hb5.cell 0
            have x1 := hb5.cell 1
            have x2 := hb5.cell 2
            have x3 := hb5.cell 3
            have x4 := hb5.cell 4
            have x5 := hb5.cell 5
            have x6 := hb5.cell 6
            have x7 := hb5.cell 7
            have x8 := hb5.cell 8
            have x9 := hb5.cell 9
            have x10 := hb5.cell 10
            simp only [NtC, List.getElem?_toArray, List.getElem?_cons_zero, List.getElem?_cons_succ] at x0 x1 x2 x3 x4 x5 x6 x7 x8 x9 x10
            have HhK := Lib.hid hK
            have Hhvi := Lib.hid hvi
            have Hh1 := Lib.hid h1
            have Hh2 := Lib.hid h2
            have Hh3 := Lib.hid h3
            have Hh45 := Lib.hid h45
            have Hh66 := Lib.hid h66
            have Hh7 := Lib.hid h7
            clear hK hvi h1 h2 h3 h45 h66 h7
            go_wp2_with fail
            clear x0 x1 x2 x3 x4 x5 x6 x7 x8 x9 x10
            have hK := HhK.out
            have hvi := Hhvi.out
            have h1 := Hh1.out
            have h2 := Hh2.out
            have h3 := Hh3.out
            have h45 := Hh45.out
            have h66 := Hh66.out
            have h7 := Hh7.out
            clear HhK Hhvi Hh1 Hh2 Hh3 Hh45 Hh66 Hh7
            refine (refView_any _ C.vep B3 m3 d3 C.mems (hmems.non (hc5)) hm63).mono ?_
            rintro e w6 ⟨rfl, hc6⟩
            have hC6 := hC5.non hc6
            have hb6 := hb5.non hc6
            clear hC5 hb5
            cases h8 : (upto great C.vep && viewB C.mems) with
            | false =>
              have x0 := hb6.cell 0
              have x1 := hb6.cell 1
              have x2 := hb6.cell 2
              have x3 := hb6.cell 3
              have x4 := hb6.cell 4
              have x5 := hb6.cell 5
              have x6 := hb6.cell 6
              have x7 := hb6.cell 7
              have x8 := hb6.cell 8
              have x9 := hb6.cell 9
              have x10 := hb6.cell 10
              simp only [NtC, List.getElem?_toArray, List.getElem?_cons_zero, List.getElem?_cons_succ] at x0 x1 x2 x3 x4 x5 x6 x7 x8 x9 x10
              have hno : C.may = false := by unfold Nt.may; simp [hK, hvi, h1, h2, h3, h45, h66, h7, h8]
              have Hno := Lib.hid hno
              clear hno hK hvi h1 h2 h3 h45 h66 h7 h8
              go_wp2_with fail
              go_ret
              exact ⟨by rw [HCe.out, Hno.out]; rfl, hC6⟩
            | true =>
              simp only [Bool.and_eq_true] at h8
              have hyes : C.may = true := by unfold Nt.may; simp [hK, hvi, h1, h2, h3, h45, h66, h7, h8]
              have Hyes := Lib.hid hyes
              clear hyes hK hvi h1 h2 h3 h45 h66 h7 h8
              go_wp2_with fail
              go_ret
              exact ⟨by rw [HCe.out, Hyes.out]; rfl, hC6⟩
end
end Go.Proofs.Ytflaliomkfbagaa
