/-
  gleanerref1: HasN, Name, Pops, Pushes, Next.
  gleanerref1: HasN, Name, Pops, Pushes, Next.
-/
import Derived.Test.YteinbdifncdaiaaTdDeepCode
import Derived.Test.YteinbdifncdaiaaTdLaw
import Derived.Test.YteinbdifncdaiaaTdRow
import Derived.Test.YteinbdifncdaiaaTdTrace
namespace Go.Proofs.Yteinbdifncdaiaa
open Go.RowKit
set_option linter.unusedVariables false
set_option linter.unusedSimpArgs false

theorem op_cases (op : Int) : op = 1 ∨ op = 2 ∨ op = 3 ∨ op = 4 ∨ op = 5 ∨ op = 6 ∨ op = 7 ∨ op = 8 ∨ op = 9 ∨ op = 10 ∨ op = 11 ∨ op = 12 ∨ op = 13 ∨ op = 14 ∨ op = 15 ∨ op = 16 ∨ op = 17 ∨ op = 18 ∨ op = 19 ∨ op < 1 ∨ 19 < op := by omega
/-- What names there are. -/
def nameP (op : Int) : ByteArray := if 1 ≤ op ∧ op ≤ 19 then ([⟨#[]⟩, ⟨#[112, 117, 115, 104]⟩, ⟨#[112, 111, 112]⟩, ⟨#[100, 117, 112]⟩, ⟨#[115, 119, 97, 112]⟩, ⟨#[108, 111, 97, 100]⟩, ⟨#[115, 116, 111, 114, 101]⟩, ⟨#[97, 100, 100]⟩, ⟨#[115, 117, 98]⟩, ⟨#[109, 117, 108]⟩, ⟨#[100, 105, 118]⟩, ⟨#[109, 111, 100]⟩, ⟨#[108, 116]⟩, ⟨#[101, 113]⟩, ⟨#[106, 117, 109, 112]⟩, ⟨#[122, 101, 114, 111]⟩, ⟨#[115, 112, 97, 119, 110]⟩, ⟨#[97, 119, 97, 105, 116]⟩, ⟨#[114, 101, 116]⟩, ⟨#[102, 97, 105, 108]⟩][op.toNat]?).getD ⟨#[]⟩ else ⟨#[]⟩
set_option maxRecDepth 100000 in
set_option maxHeartbeats 4000000 in
theorem refHasN_any (op : Int) (w : World) : Calls Try.prog 97 #[.int .i64 op] w fun e w2 => e = .returned (.bool (hasN op)) ∧ w = w2 := by
  rcases op_cases op with rfl | rfl | rfl | rfl | rfl | rfl | rfl | rfl | rfl | rfl | rfl | rfl | rfl | rfl | rfl | rfl | rfl | rfl | rfl | hop | hop
  all_goals
    go_enter Try.func97, Try.ntmps97
    go_wp2_with fail
    go_ret
    refine ⟨?_, rfl⟩
    first
      | rfl
      | (have h : hasN op = false := by unfold hasN; simp only [Bool.or_eq_false_iff, beq_eq_false_iff_ne]; omega
         rw [h] <;> rfl)
set_option maxRecDepth 100000 in
set_option maxHeartbeats 4000000 in
theorem refName_any (op : Int) (w : World) : Calls Try.prog 98 #[.int .i64 op] w fun e w2 => e = .returned (.string (nameP op)) ∧ Chg Non w w2 := by
  rcases op_cases op with rfl | rfl | rfl | rfl | rfl | rfl | rfl | rfl | rfl | rfl | rfl | rfl | rfl | rfl | rfl | rfl | rfl | rfl | rfl | hop | hop
  all_goals
    go_enter Try.func98, Try.ntmps98
    try have hd1 := decide_eq_true (show op < 1 by omega)
    try have hd2 := decide_eq_false (show ¬ op < 1 by omega)
    try have hd3 : 20 ≤ op := by omega
    go_wp2_with fail
    go_ret
    refine ⟨?_, (Chg.refl _ _).alloc _⟩
    first
      | rfl
      | (have h : nameP op = ⟨#[]⟩ := by unfold nameP; rw [if_neg (by omega)]
         rw [h] <;> rfl)

/-- A slice of functions that reads as it should. -/
structure FnsAt (w : World) (A : Option Addr) (n : Nat) (F : List Fn) : Prop where
  rds : Rds w 4 A n (F.flatMap cellF)
  le : n ≤ 9223372036854775807
theorem FnsAt.len {w : World} {A : Option Addr} {n : Nat} {F : List Fn} (h : FnsAt w A n F) : n = F.length := flat_eq cellF_len (by decide) h.rds
set_option maxRecDepth 100000 in
set_option maxHeartbeats 8000000 in
theorem refPops_any (w : World) (op N : Int) (A : Option Addr) (n c : Nat) (F : List Fn) (h : FnsAt w A n F) :
    Calls Try.prog 59 #[.agg #[.int .i64 op, .int .i64 N], .slice A n c] w fun e w2 => e = .returned (.int .i64 (popsP F (op, N))) ∧ Chg Non w w2 := by
  have hle := h.le
  by_cases h16 : op = 16 ∧ 0 ≤ N ∧ N < n
  · obtain ⟨rfl, h1, h2⟩ := h16
    have hl := h.len
    obtain ⟨k, rfl⟩ : ∃ k : Nat, N = k := ⟨N.toNat, by omega⟩
    have hk : k < n := by omega
    obtain ⟨ad, f, rfl, hf, _, hN⟩ := h.rds.getN cellF_len (by decide) hk
    have q1 : w.cell? ⟨(ad.add (k * 4)).block, (ad.add (k * 4)).off + 1, none⟩ = some (.int .i64 f.args) := hN 0 (.int .i64 f.args) rfl
    have hp : Hid (popsP F (16, (k : Int)) = f.args) := by
      show _ = _
      unfold popsP argsAt
      simp only [Int.toNat_natCast, hf]
      have : (k : Int) < F.length := by omega
      simp [this]
    have hz : (ad.add (k * 4)).block < w.heap.size := by
      have := World.block_lt_of_cell? w _ q1
      exact this
    have hz2 : ad.block < w.heap.size := by rw [← block_add ad (k * 4)]; exact hz
    clear h hl hf hN
    go_enter Try.func59, Try.ntmps59
    go_wp2_with fail
    go_ret
    exact ⟨by rw [hp.out] <;> rfl, (Chg.refl _ _).alloc _⟩
  · have hn := h.len
    have hno : Hid (op = 16 → (N < 0 ∨ (n : Int) ≤ N)) := by show _ → _; intro e; omega
    have hp : Hid (op = 16 → popsP F (op, N) = 0) := by
      show _ → _
      intro e
      unfold popsP
      have := hno.out e
      simp only [e]
      rw [if_neg (by omega), if_neg (by omega), if_neg (by omega)]
    clear h h16 hn
    rcases op_cases op with rfl | rfl | rfl | rfl | rfl | rfl | rfl | rfl | rfl | rfl | rfl | rfl | rfl | rfl | rfl | rfl | rfl | rfl | rfl | hop | hop
    case inr.inr.inr.inr.inr.inr.inr.inr.inr.inr.inr.inr.inr.inr.inr.inl =>
      rcases hno.out rfl with h1 | h1
      all_goals
        go_enter Try.func59, Try.ntmps59
        go_wp2_with fail
        go_ret
        exact ⟨by rw [hp.out (by first | rfl | trivial)] <;> rfl, (Chg.refl _ _).alloc _⟩
    all_goals
      try have g1 : (op == 1) = false := beq_eq_false_iff_ne.2 (by omega)
      try have g2 : (op == 2) = false := beq_eq_false_iff_ne.2 (by omega)
      try have g3 : (op == 3) = false := beq_eq_false_iff_ne.2 (by omega)
      try have g4 : (op == 4) = false := beq_eq_false_iff_ne.2 (by omega)
      try have g5 : (op == 5) = false := beq_eq_false_iff_ne.2 (by omega)
      try have g6 : (op == 6) = false := beq_eq_false_iff_ne.2 (by omega)
      try have g7 : (op == 7) = false := beq_eq_false_iff_ne.2 (by omega)
      try have g8 : (op == 8) = false := beq_eq_false_iff_ne.2 (by omega)
      try have g9 : (op == 9) = false := beq_eq_false_iff_ne.2 (by omega)
      try have g10 : (op == 10) = false := beq_eq_false_iff_ne.2 (by omega)
      try have g11 : (op == 11) = false := beq_eq_false_iff_ne.2 (by omega)
      try have g12 : (op == 12) = false := beq_eq_false_iff_ne.2 (by omega)
      try have g13 : (op == 13) = false := beq_eq_false_iff_ne.2 (by omega)
      try have g14 : (op == 14) = false := beq_eq_false_iff_ne.2 (by omega)
      try have g15 : (op == 15) = false := beq_eq_false_iff_ne.2 (by omega)
      try have g16 : (op == 16) = false := beq_eq_false_iff_ne.2 (by omega)
      try have g17 : (op == 17) = false := beq_eq_false_iff_ne.2 (by omega)
      try have g18 : (op == 18) = false := beq_eq_false_iff_ne.2 (by omega)
      try have g19 : (op == 19) = false := beq_eq_false_iff_ne.2 (by omega)
      try have g20 : decide (7 ≤ op) = false := decide_eq_false (by omega)
      try have g21 : decide (op ≤ 13) = false := decide_eq_false (by omega)
      go_enter Try.func59, Try.ntmps59
      go_wp2_with fail
      go_ret
      refine ⟨?_, (Chg.refl _ _).alloc _⟩
      first
        | rfl
        | (have h : popsP F (op, N) = 0 := by
             unfold popsP
             show (if op = 2 ∨ op = 3 ∨ op = 6 ∨ op = 15 ∨ op = 17 ∨ op = 18 ∨ op = 19 then (1 : Int) else if op = 4 ∨ (7 ≤ op ∧ op ≤ 13) then 2 else if op = 16 ∧ 0 ≤ N ∧ N < F.length then argsAt F N else 0) = 0
             rw [if_neg (by omega), if_neg (by omega), if_neg (by omega)]
           rw [h] <;> rfl)
        | simp [popsP]
end Go.Proofs.Yteinbdifncdaiaa
