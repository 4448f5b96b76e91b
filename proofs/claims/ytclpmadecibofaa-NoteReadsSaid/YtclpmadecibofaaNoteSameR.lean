/-
  gleanerref10.SameNote.
-/
import Derived.Test.YtclpmadecibofaaNoteMay
import Derived.Test.YtclpmadecibofaaSameInts
namespace Go.Proofs.Ytclpmadecibofaa
open Go.RowKit
set_option linter.unusedVariables false
set_option linter.unusedSimpArgs false

/-- Are two notes one? -/
def sameN (a b : Nt) : Bool :=
  a.kind == b.kind && a.node == b.node && a.life == b.life && a.epoch == b.epoch && a.id.data.toList == b.id.data.toList && a.fn == b.fn && a.err == b.err && a.val == b.val && a.vep == b.vep && a.args == b.args && a.mems == b.mems
theorem sameN_iff {a b : Nt} : sameN a b = true ↔ a = b := by
  constructor
  · intro h
    unfold sameN at h
    simp only [Bool.and_eq_true, beq_iff_eq] at h
    obtain ⟨⟨⟨⟨⟨⟨⟨⟨⟨⟨h1, h2⟩, h3⟩, h4⟩, h5⟩, h6⟩, h7⟩, h8⟩, h9⟩, h10⟩, h11⟩ := h
    cases a; cases b
    simp only at *
    subst h1 h2 h3 h4 h6 h7 h8 h9 h10 h11
    congr 1
    exact ByteArray.ext (Array.toList_inj.1 h5)
  · rintro rfl
    simp [sameN]
theorem sameN_self (a : Nt) : sameN a a = true := sameN_iff.2 rfl
theorem sameN_ne {a b : Nt} (h : a ≠ b) : sameN a b = false := by
  cases h2 : sameN a b with
  | false => rfl
  | true => exact absurd (sameN_iff.1 h2) h

theorem neq_mem (x y : Mb) (h : x ≠ y) (w : World) : (binOp .neq 50 (.agg #[.int .i64 x.1, .int .i64 x.2]) (.agg #[.int .i64 y.1, .int .i64 y.2])).run Try.prog w = .ok (.bool true) w := by
  go_simp
  intro e1 e2
  exact h (Prod.ext e1 e2)

set_option maxRecDepth 100000 in
set_option maxHeartbeats 8000000 in
theorem same_rows (w : World) (a0 a1 a2 a3 : Int) (a4 : ByteArray) (a5 a7 a8 a9 : Int) (A : Option Addr) (k c : Nat) (B : Option Addr) (m d : Nat) (A2 : Option Addr) (k2 c2 : Nat) (B2 : Option Addr) (d2 : Nat) (l1 l2 : List Int) (L1 L2 : List Mb) (h1 : Rds w 1 A k (iv l1)) (h2 : Rds w 1 A2 k2 (iv l2)) (g1 : Rds w 2 B m (mv L1)) (g2 : Rds w 2 B2 m (mv L2)) (hk : k ≤ 9223372036854775807) (hm : m ≤ 9223372036854775807) :
    Calls Try.prog 14 #[.agg #[.int .i64 a0, .int .i64 a1, .int .i64 a2, .int .i64 a3, .string a4, .int .i64 a5, .slice A k c, .int .i64 a7, .int .i64 a8, .int .i64 a9, .slice B m d], .agg #[.int .i64 a0, .int .i64 a1, .int .i64 a2, .int .i64 a3, .string a4, .int .i64 a5, .slice A2 k2 c2, .int .i64 a7, .int .i64 a8, .int .i64 a9, .slice B2 m d2]] w fun e w2 => e = .returned (.bool (l1 == l2 && L1 == L2)) ∧ Chg Non w w2 := by
  obtain ⟨w1, ew1⟩ : ∃ wq, w.alloc (.cells #[.int .i64 a0, .int .i64 a1, .int .i64 a2, .int .i64 a3, .string a4, .int .i64 a5, .slice A k c, .int .i64 a7, .int .i64 a8, .int .i64 a9, .slice B m d] 31) = wq := ⟨_, rfl⟩
  have hc1 : Chg Non w w1 := ew1 ▸ (Chg.refl _ _).alloc _
  have hba : Blk w1 w.heap.size 31 #[.int .i64 a0, .int .i64 a1, .int .i64 a2, .int .i64 a3, .string a4, .int .i64 a5, .slice A k c, .int .i64 a7, .int .i64 a8, .int .i64 a9, .slice B m d] := ew1 ▸ Blk.new _ _ _
  obtain ⟨w2, ew2⟩ : ∃ wq, w1.alloc (.cells #[.int .i64 a0, .int .i64 a1, .int .i64 a2, .int .i64 a3, .string a4, .int .i64 a5, .slice A2 k2 c2, .int .i64 a7, .int .i64 a8, .int .i64 a9, .slice B2 m d2] 31) = wq := ⟨_, rfl⟩
  have hc2 : Chg Non w1 w2 := ew2 ▸ (Chg.refl _ _).alloc _
  have hbb : Blk w2 w1.heap.size 31 #[.int .i64 a0, .int .i64 a1, .int .i64 a2, .int .i64 a3, .string a4, .int .i64 a5, .slice A2 k2 c2, .int .i64 a7, .int .i64 a8, .int .i64 a9, .slice B2 m d2] := ew2 ▸ Blk.new _ _ _
  have hC : Chg Non w w2 := hc1.non hc2
  have hz : w1.heap.size = w.heap.size + 1 := by rw [← ew1]; simp
  rw [hz] at hbb
  replace hba := hba.non hc2
  replace h1 := h1.non hC
  replace h2 := h2.non hC
  replace g1 := g1.non hC
  replace g2 := g2.non hC
  have ew : (w.alloc (.cells #[.int .i64 a0, .int .i64 a1, .int .i64 a2, .int .i64 a3, .string a4, .int .i64 a5, .slice A k c, .int .i64 a7, .int .i64 a8, .int .i64 a9, .slice B m d] 31)).alloc (.cells #[.int .i64 a0, .int .i64 a1, .int .i64 a2, .int .i64 a3, .string a4, .int .i64 a5, .slice A2 k2 c2, .int .i64 a7, .int .i64 a8, .int .i64 a9, .slice B2 m d2] 31) = w2 := by rw [ew1, ew2]
  have Hew := Lib.hid ew
  have Hhba := Lib.hid hba
  have Hhbb := Lib.hid hbb
  have HhC := Lib.hid hC
  have Hh1 := Lib.hid h1
  have Hh2 := Lib.hid h2
  have Hg1 := Lib.hid g1
  have Hg2 := Lib.hid g2
  have Hm := Lib.hid g1.lenM
  have Hm2 := Lib.hid g2.lenM
  clear ew hba hbb hC h1 h2 g1 g2 ew1 ew2 hz hc1 hc2
  go_enter Try.func14, Try.ntmps14
  go_wp2_with fail
  have ew := Hew.out
  have hba := Hhba.out
  have hbb := Hhbb.out
  have hC := HhC.out
  have h1 := Hh1.out
  have h2 := Hh2.out
  have g1 := Hg1.out
  have g2 := Hg2.out
  rw [ew]
  clear ew Hew Hhba Hhbb HhC Hh1 Hh2 Hg1 Hg2
  refine (sameInts_any w2 A k c l1 A2 k2 c2 l2 h1 h2 hk).mono ?_
  rintro e w3 ⟨rfl, hc3⟩
  replace hC := hC.non hc3
  replace hba := hba.non hc3
  replace hbb := hbb.non hc3
  replace g1 := g1.non hc3
  replace g2 := g2.non hc3
  have Hg1 := Lib.hid g1
  have Hg2 := Lib.hid g2
  clear h1 h2 hc3 g1 g2
  have hx10 := hba.cell 10
  have hy10 := hbb.cell 10
  simp only [List.getElem?_toArray, List.getElem?_cons_zero, List.getElem?_cons_succ] at hx10 hy10
  cases targs : (l1 == l2) with
  | false =>
    have hno : Hid ((l1 == l2 && L1 == L2) = false) := by show _ = _; rw [targs]; rfl
    clear targs
    go_wp2_with fail
    go_ret
    exact ⟨by rw [hno.out]; rfl, hC⟩
  | true =>
    have Targs := Lib.hid targs
    clear targs
    go_wp2_with fail
    clear hx10 hy10
    go_loopw [5] (fun i wr => ∃ q : Nat, q ≤ m ∧ i = .int .i64 q ∧ Hid (L1.take q = L2.take q) ∧ Chg Non w3 wr) (fun i _ => m - (intOf i).toNat)
    case atStart => exact ⟨0, Nat.zero_le _, rfl, rfl, Chg.refl _ _⟩
    case round =>
      obtain ⟨q, hq, rfl, hs, hCr⟩ := hrel
      have hCw := hC.non hCr
      have x10 := (hba.non hCr).cell 10
      have y10 := (hbb.non hCr).cell 10
      simp only [List.getElem?_toArray, List.getElem?_cons_zero, List.getElem?_cons_succ] at x10 y10
      by_cases hlt : q < m
      · obtain ⟨ad, x, rfl, hx, hx0, hx1⟩ := (Hg1.out.non hCr).getM hlt
        obtain ⟨bd, y, rfl, hy, hy0, hy1⟩ := (Hg2.out.non hCr).getM hlt
        have hsame := take_same hx hy hs.out
        by_cases hxy : x = y
        · have hs2 : Hid (L1.take (q + 1) = L2.take (q + 1)) := hsame.2 hxy
          subst hxy
          clear hx hy hsame
          go_wp2_with fail
          go_quiet (fail)
          go_wp2_with fail
          go_roundw
          case rel => exact ⟨q + 1, by omega, by go_num, hs2, hCr.drewN _⟩
          case measure => simp [intOf]; omega
        · have hno : Hid ((l1 == l2 && L1 == L2) = false) := by show _ = _; rw [show (L1 == L2) = false from beq_eq_false_iff_ne.2 (not_same hx hy hxy)]; simp
          have hne := neq_mem x y hxy
          clear hx hy hsame hxy
          go_wp2_with fail
          go_quiet (fail)
          go_wp2_with fail
          go_ret
          exact ⟨by rw [hno.out]; rfl, hCw.drewN _⟩
      · obtain rfl : q = m := by omega
        have hyes : Hid ((l1 == l2 && L1 == L2) = true) := by
          show _ = _
          have := hs.out
          rw [List.take_of_length_le (by have := Hm.out; omega), List.take_of_length_le (by have := Hm2.out; omega)] at this
          rw [Targs.out, this]
          simp
        go_wp2_with fail
        go_ret
        exact ⟨by rw [hyes.out]; rfl, hCw⟩

/-- Two that are one. -/
theorem same_self (w : World) (a : Nt) (A : Option Addr) (k c : Nat) (B : Option Addr) (m d : Nat) (A2 : Option Addr) (k2 c2 : Nat) (B2 : Option Addr) (m2 d2 : Nat) (ha : NtAt w a A k c B m d) (hb : NtAt w a A2 k2 c2 B2 m2 d2) :
    Calls Try.prog 14 #[.agg (NtC a A k c B m d), .agg (NtC a A2 k2 c2 B2 m2 d2)] w fun e w2 => e = .returned (.bool true) ∧ Chg Non w w2 := by
  have hk63 : k ≤ 9223372036854775807 := by have := ha.kc; have := ha.cm; unfold maxLen at this; omega
  have hm63 : m ≤ 9223372036854775807 := by have := ha.md; have := ha.dm; unfold maxLen at this; omega
  have h1 := ha.args
  have h2 := hb.args
  have g1 := ha.mems
  have g2 := hb.mems
  obtain rfl : m = m2 := by rw [g1.lenM, g2.lenM]
  clear ha hb
  obtain ⟨a0, a1, a2, a3, a4, a5, l1, a7, a8, a9, L1⟩ := a
  refine (same_rows w a0 a1 a2 a3 a4 a5 a7 a8 a9 A k c B m d A2 k2 c2 B2 d2 l1 l1 L1 L1 h1 h2 g1 g2 hk63 hm63).mono ?_
  rintro e w2 ⟨rfl, hC⟩
  exact ⟨by simp, hC⟩
end Go.Proofs.Ytclpmadecibofaa
