/-
  slices.Equal of rows of commits; rows that are one but for their order, plain.
-/
import Derived.Test.YteinbdifncdaiaaTraceSortF
namespace Go.Proofs.Yteinbdifncdaiaa
open Go.RowKit Go.Sort Go.Shelf
set_option linter.unusedVariables false
set_option linter.unusedSimpArgs false

theorem neq_cm (a : ByteArray) (b c : Int) (a2 : ByteArray) (b2 c2 : Int) (h : (a, b, c) ≠ (a2, b2, c2)) (w : World) : (binOp .neq 34 (.agg #[.string a, .int .i64 b, .int .i64 c]) (.agg #[.string a2, .int .i64 b2, .int .i64 c2])).run Try.prog w = .ok (.bool true) w := by
  go_simp
  intro e1 e2
  by_cases ha : a = a2
  · subst ha
    intro e3
    exact h (by simp_all)
  · have := str_ne ha
    simp_all
theorem neq_cmE (a : ByteArray) (b c : Int) (w : World) : (binOp .neq 34 (.agg #[.string a, .int .i64 b, .int .i64 c]) (.agg #[.string a, .int .i64 b, .int .i64 c])).run Try.prog w = .ok (.bool false) w := by
  go_simp
theorem takeC {l m : List Cm} {k : Nat} {x y : Cm} (hl : l[k]? = some x) (hm : m[k]? = some y) (h : l.take k = m.take k) : l.take (k + 1) = m.take (k + 1) ↔ x = y := by
  rw [List.take_add_one, List.take_add_one, h, hl, hm]
  simp
theorem differC {l m : List Cm} {k : Nat} {x y : Cm} (hl : l[k]? = some x) (hm : m[k]? = some y) (h : x ≠ y) : l ≠ m := by
  rintro rfl
  rw [hl] at hm
  exact h (Option.some.inj hm)
set_option maxRecDepth 100000 in
set_option maxHeartbeats 2000000 in
theorem equalC_any (w : World) (A : Option Addr) (n c : Nat) (B : Option Addr) (m d : Nat) (L1 L2 : List Cm) (h1 : Rds w 3 A n (cv L1)) (h2 : Rds w 3 B m (cv L2)) (hn : n ≤ 1000000) :
    Calls Try.prog 25 #[.slice A n c, .slice B m d] w fun e w2 => e = .returned (.bool (decide (L1 = L2))) ∧ Chg Non w w2 := by
  have hl1 := flat_eq cellC_len (by decide) h1
  have hl2 := flat_eq cellC_len (by decide) h2
  have Hl1 := Lib.hid hl1
  have Hl2 := Lib.hid hl2
  have H1 := Lib.hid h1
  have H2 := Lib.hid h2
  clear h1 h2 hl1 hl2
  by_cases hnm : n = m
  · subst hnm
    go_enter Try.func25, Try.ntmps25
    go_wp2_with fail
    go_loopw [13] (fun i wr => ∃ k : Nat, k ≤ n ∧ i = .int .i64 k ∧ Hid (L1.take k = L2.take k) ∧ Chg Non w wr) (fun i _ => n - (intOf i).toNat)
    case atStart => exact ⟨0, Nat.zero_le _, rfl, rfl, Chg.refl _ _⟩
    case round =>
      obtain ⟨k, hk, rfl, hs, hC⟩ := hrel
      by_cases hlt : k < n
      · obtain ⟨ad, ⟨a, b, e⟩, rfl, hx, hc0, hc⟩ := H1.out.getN cellC_len (by decide) hlt
        obtain ⟨ad2, ⟨a2, b2, e2⟩, rfl, hy, hd0, hd⟩ := H2.out.getN cellC_len (by decide) hlt
        have x0 : wr.cell? (ad.add (k * 3)) = some (.string a) := hC.cell (hc0 _ rfl) _root_.id
        have x1 : wr.cell? ⟨(ad.add (k * 3)).block, (ad.add (k * 3)).off + 1, none⟩ = some (.int .i64 b) := hC.cell (hc 0 _ rfl) _root_.id
        have x2 : wr.cell? ⟨(ad.add (k * 3)).block, (ad.add (k * 3)).off + 2, none⟩ = some (.int .i64 e) := hC.cell (hc 1 _ rfl) _root_.id
        have y0 : wr.cell? (ad2.add (k * 3)) = some (.string a2) := hC.cell (hd0 _ rfl) _root_.id
        have y1 : wr.cell? ⟨(ad2.add (k * 3)).block, (ad2.add (k * 3)).off + 1, none⟩ = some (.int .i64 b2) := hC.cell (hd 0 _ rfl) _root_.id
        have y2 : wr.cell? ⟨(ad2.add (k * 3)).block, (ad2.add (k * 3)).off + 2, none⟩ = some (.int .i64 e2) := hC.cell (hd 1 _ rfl) _root_.id
        have i1 : (0 : Int) ≤ (k : Int) := by omega
        have i2 : (k : Int) < n := by omega
        have hsame := takeC hx hy hs.out
        by_cases hxy : (a, b, e) = (a2, b2, e2)
        · have hs2 : Hid (L1.take (k + 1) = L2.take (k + 1)) := hsame.2 hxy
          injection hxy with j1 j2
          injection j2 with j2 j3
          subst j1 j2 j3
          have hne := neq_cmE a b e
          clear hx hy hsame hc0 hc hd0 hd
          go_wp2_with fail
          go_quiet (fail)
          go_wp2_with fail
          go_roundw
          case rel => exact ⟨k + 1, by omega, by go_num, hs2, hC.drewN _⟩
          case measure => simp [intOf]; omega
        · have hno : Hid (decide (L1 = L2) = false) := decide_eq_false (differC hx hy hxy)
          have hne := neq_cm a b e a2 b2 e2 hxy
          clear hx hy hsame hxy hc0 hc hd0 hd
          go_wp2_with fail
          go_quiet (fail)
          go_wp2_with fail
          go_ret
          exact ⟨by rw [hno.out]; rfl, hC.drewN _⟩
      · obtain rfl : k = n := by omega
        have hyes : Hid (decide (L1 = L2) = true) := decide_eq_true (by
          have h9 := hs.out
          rwa [List.take_of_length_le (by have := Hl1.out; omega), List.take_of_length_le (by have := Hl2.out; omega)] at h9)
        go_wp2_with fail
        go_ret
        exact ⟨by rw [hyes.out]; rfl, hC⟩
  · have hno : Hid (decide (L1 = L2) = false) := decide_eq_false (fun e => hnm (by rw [Hl1.out, Hl2.out, e]))
    have hne : ((n : Int) != (m : Int)) = true := by rw [bne_iff_ne]; omega
    clear hnm
    go_enter Try.func25, Try.ntmps25
    go_wp2_with fail
    go_ret
    exact ⟨by rw [hno.out]; rfl, Chg.refl _ _⟩

/-- Two rising orders are one just when the rows are one but for their order. -/
theorem sorted_perm {L1 L2 M1 M2 : List Cm} (h1 : M1.Perm L1) (s1 : M1.Pairwise leC) (h2 : M2.Perm L2) (s2 : M2.Pairwise leC) : M1 = M2 ↔ L1.Perm L2 := by
  constructor
  · rintro rfl
    exact h1.symm.trans h2
  · intro h
    refine List.Perm.eq_of_pairwise (le := leC) (fun a b _ _ k1 k2 => ?_) s1 s2 ((h1.trans h).trans h2.symm)
    rcases ltC_tri a b with k | k | k
    · exact absurd k k2
    · exact k
    · exact absurd k k1
local instance (priority := high) beqCm : BEq Cm := instBEqOfDecidableEq
/-- How often a commit stands in a row. -/
def cntC (L : List Cm) (x : Cm) : Nat := L.countP fun y => decide (y = x)
theorem cntC_is (L : List Cm) (x : Cm) : cntC L x = L.count x := rfl
/-- Counting alike. -/
theorem perm_of_counts : ∀ (L1 L2 : List Cm), L1.length = L2.length → (∀ x ∈ L1, cntC L1 x = cntC L2 x) → L1.Perm L2
  | [], L2, hl, _ => by
    have : L2 = [] := List.eq_nil_of_length_eq_zero hl.symm
    rw [this]
  | x :: L1, L2, hl, h => by
    have hx := h x (List.mem_cons_self ..)
    rw [cntC_is, cntC_is, List.count_cons_self] at hx
    have hm : x ∈ L2 := List.count_pos_iff.1 (by omega)
    have hp := List.perm_cons_erase hm
    have ih := perm_of_counts L1 (L2.erase x) (by have := List.length_erase_of_mem hm; simp at hl; omega) (fun y hy => by
      have h9 := h y (List.mem_cons_of_mem _ hy)
      rw [cntC_is, cntC_is, hp.count_eq, List.count_cons, List.count_cons] at h9
      rw [cntC_is, cntC_is]
      omega)
    exact (List.Perm.cons x ih).trans hp.symm
theorem cntC_perm {L1 L2 : List Cm} (h : L1.Perm L2) (x : Cm) : cntC L1 x = cntC L2 x := h.countP_eq _
theorem cntC_step {L : List Cm} {k : Nat} {x y : Cm} (h : L[k]? = some y) : cntC (L.take (k + 1)) x = cntC (L.take k) x + (if y = x then 1 else 0) := by
  unfold cntC
  rw [List.take_add_one, h, Option.toList_some, List.countP_append]
  by_cases e : y = x <;> simp [e]
theorem cntC_le (L : List Cm) (x : Cm) : cntC L x ≤ L.length := List.countP_le_length
end Go.Proofs.Yteinbdifncdaiaa
