/-
  gleanerref10.Clear.
-/
import Derived.Test.YtclpmadecibofaaNoteReadW
namespace Go.Proofs.Ytclpmadecibofaa
open Go.RowKit
set_option linter.unusedVariables false
set_option linter.unusedSimpArgs false

def RefClearPost (w : World) (n : Nt) (A : Option Addr) (k c : Nat) (B : Option Addr) (m d : Nat) (e : Ending) (w2 : World) : Prop :=
  ∃ A2 k2 c2 B2 m2 d2, e = .returned (.agg (NtC n.clear A2 k2 c2 B2 m2 d2)) ∧ (∀ w9, NtAt w9 n A k c B m d → NtAt w9 n.clear A2 k2 c2 B2 m2 d2) ∧ Chg Non w w2

set_option maxRecDepth 100000 in
set_option maxHeartbeats 4000000 in
theorem refClear_1 (w : World) (node life epoch : Int) (id : ByteArray) (fn : Int) (err val vep : Int) (A : Option Addr) (k c : Nat) (B : Option Addr) (m d : Nat) :
    Calls Try.prog 15 #[.agg #[.int .i64 1, .int .i64 node, .int .i64 life, .int .i64 epoch, .string id, .int .i64 fn, .slice A k c, .int .i64 err, .int .i64 val, .int .i64 vep, .slice B m d]] w fun e w2 => e = .returned (.agg #[.int .i64 1, .int .i64 node, .int .i64 life, .int .i64 0, .string ⟨#[]⟩, .int .i64 0, .slice none 0 0, .int .i64 0, .int .i64 0, .int .i64 0, .slice none 0 0]) ∧ Chg Non w w2 := by
  go_enter Try.func15, Try.ntmps15
  go_wp2_with fail
  exact bodyPost_ret (v := .agg #[.int .i64 1, .int .i64 node, .int .i64 life, .int .i64 0, .string ⟨#[]⟩, .int .i64 0, .slice none 0 0, .int .i64 0, .int .i64 0, .int .i64 0, .slice none 0 0]) (by simp [results, Try.results15, go_sem]) rfl ⟨rfl, (((Chg.refl _ _).alloc _).alloc _).alloc _⟩

set_option maxRecDepth 100000 in
set_option maxHeartbeats 4000000 in
theorem refClear_2 (w : World) (node life epoch : Int) (id : ByteArray) (fn : Int) (err val vep : Int) (A : Option Addr) (k c : Nat) (B : Option Addr) (m d : Nat) :
    Calls Try.prog 15 #[.agg #[.int .i64 2, .int .i64 node, .int .i64 life, .int .i64 epoch, .string id, .int .i64 fn, .slice A k c, .int .i64 err, .int .i64 val, .int .i64 vep, .slice B m d]] w fun e w2 => e = .returned (.agg #[.int .i64 2, .int .i64 0, .int .i64 0, .int .i64 0, .string ⟨#[]⟩, .int .i64 0, .slice none 0 0, .int .i64 0, .int .i64 0, .int .i64 vep, .slice B m d]) ∧ Chg Non w w2 := by
  go_enter Try.func15, Try.ntmps15
  go_wp2_with fail
  exact bodyPost_ret (v := .agg #[.int .i64 2, .int .i64 0, .int .i64 0, .int .i64 0, .string ⟨#[]⟩, .int .i64 0, .slice none 0 0, .int .i64 0, .int .i64 0, .int .i64 vep, .slice B m d]) (by simp [results, Try.results15, go_sem]) rfl ⟨rfl, (((Chg.refl _ _).alloc _).alloc _).alloc _⟩

set_option maxRecDepth 100000 in
set_option maxHeartbeats 4000000 in
theorem refClear_3 (w : World) (node life epoch : Int) (id : ByteArray) (fn : Int) (err val vep : Int) (A : Option Addr) (k c : Nat) (B : Option Addr) (m d : Nat) :
    Calls Try.prog 15 #[.agg #[.int .i64 3, .int .i64 node, .int .i64 life, .int .i64 epoch, .string id, .int .i64 fn, .slice A k c, .int .i64 err, .int .i64 val, .int .i64 vep, .slice B m d]] w fun e w2 => e = .returned (.agg #[.int .i64 3, .int .i64 node, .int .i64 0, .int .i64 epoch, .string ⟨#[]⟩, .int .i64 0, .slice none 0 0, .int .i64 0, .int .i64 0, .int .i64 0, .slice none 0 0]) ∧ Chg Non w w2 := by
  go_enter Try.func15, Try.ntmps15
  go_wp2_with fail
  exact bodyPost_ret (v := .agg #[.int .i64 3, .int .i64 node, .int .i64 0, .int .i64 epoch, .string ⟨#[]⟩, .int .i64 0, .slice none 0 0, .int .i64 0, .int .i64 0, .int .i64 0, .slice none 0 0]) (by simp [results, Try.results15, go_sem]) rfl ⟨rfl, (((Chg.refl _ _).alloc _).alloc _).alloc _⟩

set_option maxRecDepth 100000 in
set_option maxHeartbeats 4000000 in
theorem refClear_4 (w : World) (node life epoch : Int) (id : ByteArray) (fn : Int) (err val vep : Int) (A : Option Addr) (k c : Nat) (B : Option Addr) (m d : Nat) :
    Calls Try.prog 15 #[.agg #[.int .i64 4, .int .i64 node, .int .i64 life, .int .i64 epoch, .string id, .int .i64 fn, .slice A k c, .int .i64 err, .int .i64 val, .int .i64 vep, .slice B m d]] w fun e w2 => e = .returned (.agg #[.int .i64 4, .int .i64 0, .int .i64 life, .int .i64 epoch, .string id, .int .i64 fn, .slice A k c, .int .i64 0, .int .i64 0, .int .i64 0, .slice none 0 0]) ∧ Chg Non w w2 := by
  go_enter Try.func15, Try.ntmps15
  go_wp2_with fail
  exact bodyPost_ret (v := .agg #[.int .i64 4, .int .i64 0, .int .i64 life, .int .i64 epoch, .string id, .int .i64 fn, .slice A k c, .int .i64 0, .int .i64 0, .int .i64 0, .slice none 0 0]) (by simp [results, Try.results15, go_sem]) rfl ⟨rfl, (((Chg.refl _ _).alloc _).alloc _).alloc _⟩

set_option maxRecDepth 100000 in
set_option maxHeartbeats 4000000 in
theorem refClear_5 (w : World) (node life epoch : Int) (id : ByteArray) (fn : Int) (err val vep : Int) (A : Option Addr) (k c : Nat) (B : Option Addr) (m d : Nat) :
    Calls Try.prog 15 #[.agg #[.int .i64 5, .int .i64 node, .int .i64 life, .int .i64 epoch, .string id, .int .i64 fn, .slice A k c, .int .i64 err, .int .i64 val, .int .i64 vep, .slice B m d]] w fun e w2 => e = .returned (.agg #[.int .i64 5, .int .i64 node, .int .i64 life, .int .i64 epoch, .string id, .int .i64 0, .slice none 0 0, .int .i64 0, .int .i64 0, .int .i64 0, .slice none 0 0]) ∧ Chg Non w w2 := by
  go_enter Try.func15, Try.ntmps15
  go_wp2_with fail
  exact bodyPost_ret (v := .agg #[.int .i64 5, .int .i64 node, .int .i64 life, .int .i64 epoch, .string id, .int .i64 0, .slice none 0 0, .int .i64 0, .int .i64 0, .int .i64 0, .slice none 0 0]) (by simp [results, Try.results15, go_sem]) rfl ⟨rfl, (((Chg.refl _ _).alloc _).alloc _).alloc _⟩

set_option maxRecDepth 100000 in
set_option maxHeartbeats 4000000 in
theorem refClear_6 (w : World) (node life epoch : Int) (id : ByteArray) (fn : Int) (err val vep : Int) (A : Option Addr) (k c : Nat) (B : Option Addr) (m d : Nat) :
    Calls Try.prog 15 #[.agg #[.int .i64 6, .int .i64 node, .int .i64 life, .int .i64 epoch, .string id, .int .i64 fn, .slice A k c, .int .i64 err, .int .i64 val, .int .i64 vep, .slice B m d]] w fun e w2 => e = .returned (.agg #[.int .i64 6, .int .i64 node, .int .i64 life, .int .i64 epoch, .string id, .int .i64 0, .slice none 0 0, .int .i64 0, .int .i64 0, .int .i64 0, .slice none 0 0]) ∧ Chg Non w w2 := by
  go_enter Try.func15, Try.ntmps15
  go_wp2_with fail
  exact bodyPost_ret (v := .agg #[.int .i64 6, .int .i64 node, .int .i64 life, .int .i64 epoch, .string id, .int .i64 0, .slice none 0 0, .int .i64 0, .int .i64 0, .int .i64 0, .slice none 0 0]) (by simp [results, Try.results15, go_sem]) rfl ⟨rfl, (((Chg.refl _ _).alloc _).alloc _).alloc _⟩

set_option maxRecDepth 100000 in
set_option maxHeartbeats 4000000 in
theorem refClear_7 (w : World) (node life epoch : Int) (id : ByteArray) (fn : Int) (err val vep : Int) (A : Option Addr) (k c : Nat) (B : Option Addr) (m d : Nat) :
    Calls Try.prog 15 #[.agg #[.int .i64 7, .int .i64 node, .int .i64 life, .int .i64 epoch, .string id, .int .i64 fn, .slice A k c, .int .i64 err, .int .i64 val, .int .i64 vep, .slice B m d]] w fun e w2 => e = .returned (.agg #[.int .i64 7, .int .i64 node, .int .i64 0, .int .i64 epoch, .string id, .int .i64 0, .slice none 0 0, .int .i64 err, .int .i64 val, .int .i64 0, .slice none 0 0]) ∧ Chg Non w w2 := by
  go_enter Try.func15, Try.ntmps15
  go_wp2_with fail
  exact bodyPost_ret (v := .agg #[.int .i64 7, .int .i64 node, .int .i64 0, .int .i64 epoch, .string id, .int .i64 0, .slice none 0 0, .int .i64 err, .int .i64 val, .int .i64 0, .slice none 0 0]) (by simp [results, Try.results15, go_sem]) rfl ⟨rfl, (((Chg.refl _ _).alloc _).alloc _).alloc _⟩

set_option maxRecDepth 100000 in
set_option maxHeartbeats 4000000 in
theorem refClear_8 (w : World) (node life epoch : Int) (id : ByteArray) (fn : Int) (err val vep : Int) (A : Option Addr) (k c : Nat) (B : Option Addr) (m d : Nat) :
    Calls Try.prog 15 #[.agg #[.int .i64 8, .int .i64 node, .int .i64 life, .int .i64 epoch, .string id, .int .i64 fn, .slice A k c, .int .i64 err, .int .i64 val, .int .i64 vep, .slice B m d]] w fun e w2 => e = .returned (.agg #[.int .i64 8, .int .i64 0, .int .i64 0, .int .i64 0, .string id, .int .i64 0, .slice none 0 0, .int .i64 err, .int .i64 val, .int .i64 0, .slice none 0 0]) ∧ Chg Non w w2 := by
  go_enter Try.func15, Try.ntmps15
  go_wp2_with fail
  exact bodyPost_ret (v := .agg #[.int .i64 8, .int .i64 0, .int .i64 0, .int .i64 0, .string id, .int .i64 0, .slice none 0 0, .int .i64 err, .int .i64 val, .int .i64 0, .slice none 0 0]) (by simp [results, Try.results15, go_sem]) rfl ⟨rfl, (((Chg.refl _ _).alloc _).alloc _).alloc _⟩

set_option maxRecDepth 100000 in
set_option maxHeartbeats 4000000 in
theorem refClear_9 (w : World) (node life epoch : Int) (id : ByteArray) (fn : Int) (err val vep : Int) (A : Option Addr) (k c : Nat) (B : Option Addr) (m d : Nat) :
    Calls Try.prog 15 #[.agg #[.int .i64 9, .int .i64 node, .int .i64 life, .int .i64 epoch, .string id, .int .i64 fn, .slice A k c, .int .i64 err, .int .i64 val, .int .i64 vep, .slice B m d]] w fun e w2 => e = .returned (.agg #[.int .i64 9, .int .i64 node, .int .i64 0, .int .i64 0, .string id, .int .i64 0, .slice none 0 0, .int .i64 0, .int .i64 0, .int .i64 0, .slice none 0 0]) ∧ Chg Non w w2 := by
  go_enter Try.func15, Try.ntmps15
  go_wp2_with fail
  exact bodyPost_ret (v := .agg #[.int .i64 9, .int .i64 node, .int .i64 0, .int .i64 0, .string id, .int .i64 0, .slice none 0 0, .int .i64 0, .int .i64 0, .int .i64 0, .slice none 0 0]) (by simp [results, Try.results15, go_sem]) rfl ⟨rfl, (((Chg.refl _ _).alloc _).alloc _).alloc _⟩

set_option maxRecDepth 100000 in
set_option maxHeartbeats 4000000 in
theorem refClear_10 (w : World) (node life epoch : Int) (id : ByteArray) (fn : Int) (err val vep : Int) (A : Option Addr) (k c : Nat) (B : Option Addr) (m d : Nat) :
    Calls Try.prog 15 #[.agg #[.int .i64 10, .int .i64 node, .int .i64 life, .int .i64 epoch, .string id, .int .i64 fn, .slice A k c, .int .i64 err, .int .i64 val, .int .i64 vep, .slice B m d]] w fun e w2 => e = .returned (.agg #[.int .i64 10, .int .i64 node, .int .i64 0, .int .i64 epoch, .string id, .int .i64 fn, .slice A k c, .int .i64 0, .int .i64 0, .int .i64 0, .slice none 0 0]) ∧ Chg Non w w2 := by
  go_enter Try.func15, Try.ntmps15
  go_wp2_with fail
  exact bodyPost_ret (v := .agg #[.int .i64 10, .int .i64 node, .int .i64 0, .int .i64 epoch, .string id, .int .i64 fn, .slice A k c, .int .i64 0, .int .i64 0, .int .i64 0, .slice none 0 0]) (by simp [results, Try.results15, go_sem]) rfl ⟨rfl, (((Chg.refl _ _).alloc _).alloc _).alloc _⟩

set_option maxRecDepth 100000 in
set_option maxHeartbeats 4000000 in
theorem refClear_no (w : World) (node life epoch : Int) (id : ByteArray) (fn : Int) (err val vep : Int) (A : Option Addr) (k c : Nat) (B : Option Addr) (m d : Nat) (kd : Int) (hk : kd < 1 ∨ 10 < kd) :
    Calls Try.prog 15 #[.agg #[.int .i64 kd, .int .i64 node, .int .i64 life, .int .i64 epoch, .string id, .int .i64 fn, .slice A k c, .int .i64 err, .int .i64 val, .int .i64 vep, .slice B m d]] w fun e w2 => e = .returned (.agg #[.int .i64 0, .int .i64 0, .int .i64 0, .int .i64 0, .string ⟨#[]⟩, .int .i64 0, .slice none 0 0, .int .i64 0, .int .i64 0, .int .i64 0, .slice none 0 0]) ∧ Chg Non w w2 := by
  rcases hk with hk | hk
  all_goals
    go_enter Try.func15, Try.ntmps15
    go_wp2_with fail
    exact bodyPost_ret (v := .agg #[.int .i64 0, .int .i64 0, .int .i64 0, .int .i64 0, .string ⟨#[]⟩, .int .i64 0, .slice none 0 0, .int .i64 0, .int .i64 0, .int .i64 0, .slice none 0 0]) (by simp [results, Try.results15, go_sem]) rfl ⟨rfl, (((Chg.refl _ _).alloc _).alloc _).alloc _⟩

theorem refClear_any (w : World) (n : Nt) (A : Option Addr) (k c : Nat) (B : Option Addr) (m d : Nat) :
    Calls Try.prog 15 #[.agg (NtC n A k c B m d)] w (RefClearPost w n A k c B m d) := by
  obtain ⟨kd, node, life, epoch, id, fn, args, err, val, vep, mems⟩ := n
  have z1 : (0 : Nat) ≤ maxLen := Nat.zero_le _
  cases hK : isK kd with
  | false =>
    have hc : Nt.clear ⟨kd, node, life, epoch, id, fn, args, err, val, vep, mems⟩ = Nt.zero := by unfold Nt.clear; rw [if_neg (by simp [hK])]
    have hk : kd < 1 ∨ 10 < kd := by unfold isK at hK; simp at hK; omega
    refine (refClear_no w node life epoch id fn err val vep A k c B m d kd hk).mono ?_
    rintro e w2 ⟨rfl, hc2⟩
    unfold RefClearPost
    rw [hc]
    exact ⟨none, 0, 0, none, 0, 0, rfl, fun w9 _ => ⟨zero_ok, Rds.nil_, Nat.le_refl _, z1, Rds.nil_, Nat.le_refl _, z1⟩, hc2⟩
  | true =>
    rcases kinds hK with rfl | rfl | rfl | rfl | rfl | rfl | rfl | rfl | rfl | rfl
    · refine (refClear_1 w node life epoch id fn err val vep A k c B m d).mono ?_
      rintro e w2 ⟨rfl, hc2⟩
      exact ⟨none, 0, 0, none, 0, 0, rfl, fun w9 ⟨hok, ha, ha1, ha2, hb, hb1, hb2⟩ => ⟨clear_ok hok, Rds.nil_, Nat.le_refl _, z1, Rds.nil_, Nat.le_refl _, z1⟩, hc2⟩
    · refine (refClear_2 w node life epoch id fn err val vep A k c B m d).mono ?_
      rintro e w2 ⟨rfl, hc2⟩
      exact ⟨none, 0, 0, B, m, d, rfl, fun w9 ⟨hok, ha, ha1, ha2, hb, hb1, hb2⟩ => ⟨clear_ok hok, Rds.nil_, Nat.le_refl _, z1, hb, hb1, hb2⟩, hc2⟩
    · refine (refClear_3 w node life epoch id fn err val vep A k c B m d).mono ?_
      rintro e w2 ⟨rfl, hc2⟩
      exact ⟨none, 0, 0, none, 0, 0, rfl, fun w9 ⟨hok, ha, ha1, ha2, hb, hb1, hb2⟩ => ⟨clear_ok hok, Rds.nil_, Nat.le_refl _, z1, Rds.nil_, Nat.le_refl _, z1⟩, hc2⟩
    · refine (refClear_4 w node life epoch id fn err val vep A k c B m d).mono ?_
      rintro e w2 ⟨rfl, hc2⟩
      exact ⟨A, k, c, none, 0, 0, rfl, fun w9 ⟨hok, ha, ha1, ha2, hb, hb1, hb2⟩ => ⟨clear_ok hok, ha, ha1, ha2, Rds.nil_, Nat.le_refl _, z1⟩, hc2⟩
    · refine (refClear_5 w node life epoch id fn err val vep A k c B m d).mono ?_
      rintro e w2 ⟨rfl, hc2⟩
      exact ⟨none, 0, 0, none, 0, 0, rfl, fun w9 ⟨hok, ha, ha1, ha2, hb, hb1, hb2⟩ => ⟨clear_ok hok, Rds.nil_, Nat.le_refl _, z1, Rds.nil_, Nat.le_refl _, z1⟩, hc2⟩
    · refine (refClear_6 w node life epoch id fn err val vep A k c B m d).mono ?_
      rintro e w2 ⟨rfl, hc2⟩
      exact ⟨none, 0, 0, none, 0, 0, rfl, fun w9 ⟨hok, ha, ha1, ha2, hb, hb1, hb2⟩ => ⟨clear_ok hok, Rds.nil_, Nat.le_refl _, z1, Rds.nil_, Nat.le_refl _, z1⟩, hc2⟩
    · refine (refClear_7 w node life epoch id fn err val vep A k c B m d).mono ?_
      rintro e w2 ⟨rfl, hc2⟩
      exact ⟨none, 0, 0, none, 0, 0, rfl, fun w9 ⟨hok, ha, ha1, ha2, hb, hb1, hb2⟩ => ⟨clear_ok hok, Rds.nil_, Nat.le_refl _, z1, Rds.nil_, Nat.le_refl _, z1⟩, hc2⟩
    · refine (refClear_8 w node life epoch id fn err val vep A k c B m d).mono ?_
      rintro e w2 ⟨rfl, hc2⟩
      exact ⟨none, 0, 0, none, 0, 0, rfl, fun w9 ⟨hok, ha, ha1, ha2, hb, hb1, hb2⟩ => ⟨clear_ok hok, Rds.nil_, Nat.le_refl _, z1, Rds.nil_, Nat.le_refl _, z1⟩, hc2⟩
    · refine (refClear_9 w node life epoch id fn err val vep A k c B m d).mono ?_
      rintro e w2 ⟨rfl, hc2⟩
      exact ⟨none, 0, 0, none, 0, 0, rfl, fun w9 ⟨hok, ha, ha1, ha2, hb, hb1, hb2⟩ => ⟨clear_ok hok, Rds.nil_, Nat.le_refl _, z1, Rds.nil_, Nat.le_refl _, z1⟩, hc2⟩
    · refine (refClear_10 w node life epoch id fn err val vep A k c B m d).mono ?_
      rintro e w2 ⟨rfl, hc2⟩
      exact ⟨A, k, c, none, 0, 0, rfl, fun w9 ⟨hok, ha, ha1, ha2, hb, hb1, hb2⟩ => ⟨clear_ok hok, ha, ha1, ha2, Rds.nil_, Nat.le_refl _, z1⟩, hc2⟩
end Go.Proofs.Ytclpmadecibofaa
