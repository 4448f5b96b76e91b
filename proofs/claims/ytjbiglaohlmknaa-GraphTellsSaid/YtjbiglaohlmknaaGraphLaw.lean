/-
  graph: lines go both ways; the example of the document.
-/
import Derived.Test.YtjbiglaohlmknaaGraphReach
import Derived.Test.YtjbiglaohlmknaaSameInts
namespace Go.Proofs.Ytjbiglaohlmknaa
open Go.RowKit
set_option linter.unusedVariables false
set_option linter.unusedSimpArgs false

theorem xorI_back {a b : Int} (ha : 0 ≤ a) (hb : 0 ≤ b) : xorI (xorI a b) b = a := by
  unfold xorI
  rw [Int.toNat_natCast, Nat.xor_assoc, Nat.xor_self, Nat.xor_zero]
  omega
theorem linesG_iff {nodes x z : Int} : z ∈ linesG nodes x ↔ isG nodes x = true ∧ z < nodes ∧ ∃ i, i < bitsN nodes ∧ z = xorI x (pw i) := by
  unfold linesG
  constructor
  · intro h
    split at h
    · rename_i hg
      have := linesK_mem ((risen_spec _).2 z |>.1 h)
      exact ⟨hg, this.2.1, this.2.2⟩
    · cases h
  · rintro ⟨hg, hz, i, hi, rfl⟩
    rw [if_pos hg]
    refine (risen_spec _).2 _ |>.2 ?_
    unfold linesK
    rw [List.mem_filter, List.mem_map]
    exact ⟨⟨i, List.mem_range.2 hi, rfl⟩, by simpa using hz⟩
theorem lines_back {nodes x y : Int} (h : y ∈ linesG nodes x) : x ∈ linesG nodes y := by
  obtain ⟨hg, hy, i, hi, rfl⟩ := linesG_iff.1 h
  obtain ⟨g1, g2, g3, g4⟩ := isG_iff.1 hg
  have := pw_pos i
  exact linesG_iff.2 ⟨isG_iff.2 ⟨g1, g2, xorI_ge _ _, hy⟩, g4, i, hi, (xorI_back g3 (by omega)).symm⟩
theorem Way.free {nodes a y : Int} {gone : List Int} {n : Nat} (h : Way nodes gone a n y) : y = a ∨ y ∉ gone := by
  cases h with
  | here => exact .inl rfl
  | next _ h => exact .inr h.2
theorem Way.trans {nodes a x y : Int} {gone : List Int} {n m : Nat} (h : Way nodes gone a n x) (g : Way nodes gone x m y) : Way nodes gone a (n + m) y := by
  induction g with
  | here => exact h
  | next _ h2 ih => exact .next ih h2
theorem Way.front {nodes a x y : Int} {gone : List Int} {m : Nat} (h : adj nodes gone a x) (g : Way nodes gone x m y) : Way nodes gone a (m + 1) y := by
  have := (Way.next .here h).trans g
  rwa [show 0 + 1 + m = m + 1 by omega] at this
theorem Way.back {nodes a y : Int} {gone : List Int} {n : Nat} (h : Way nodes gone a n y) (ha : a ∉ gone) : Way nodes gone y n a := by
  induction h with
  | here => exact .here
  | next h1 h2 ih =>
    refine Way.front ⟨lines_back h2.1, ?_⟩ ih
    rcases h1.free with rfl | h
    · exact ha
    · exact h
theorem mem_reachL {N : Nat} {D : Int → Int} {z : Int} : z ∈ reachL N D ↔ 0 ≤ z ∧ z < N ∧ 0 ≤ D z := by
  unfold reachL
  rw [List.mem_map]
  constructor
  · rintro ⟨i, hi, rfl⟩
    have := List.mem_filter.1 hi
    exact ⟨by omega, by have := List.mem_range.1 this.1; omega, by simpa using this.2⟩
  · rintro ⟨h1, h2, h3⟩
    refine ⟨z.toNat, List.mem_filter.2 ⟨List.mem_range.2 (by omega), ?_⟩, by omega⟩
    rw [show ((z.toNat : Nat) : Int) = z by omega]
    simpa using h3
theorem reachL_congr {N : Nat} {D E : Int → Int} (h : ∀ z, 0 ≤ D z ↔ 0 ≤ E z) : reachL N D = reachL N E := by
  unfold reachL
  congr 1
  apply List.filter_congr
  intro i _
  exact decide_eq_decide.2 (h i)
/-- Who is come to from a can come to a; and both come to the same. -/
theorem Fin.sym {nodes a b : Int} {gone : List Int} {D E : Int → Int} (h : Fin nodes gone a D) (g : Fin nodes gone b E) (ha : a ∉ gone) (hb : 0 ≤ D b) : 0 ≤ E a ∧ E a ≤ D b := by
  have h1 := (h.way b hb).back ha
  have h2 := g.least _ _ h1
  omega
theorem Fin.same {nodes a b : Int} {gone : List Int} {D E : Int → Int} (h : Fin nodes gone a D) (g : Fin nodes gone b E) (ha : a ∉ gone) (hb : 0 ≤ D b) (z : Int) : 0 ≤ D z ↔ 0 ≤ E z := by
  have h1 := (h.way b hb).back ha
  constructor
  · intro hz
    exact (g.least _ _ (h1.trans (h.way z hz))).1
  · intro hz
    exact (h.least _ _ ((h.way b hb).trans (g.way z hz))).1

theorem al_lines : linesG 6 5 = [1, 4] := by decide +kernel
set_option maxRecDepth 100000 in
theorem galive_any (w : World) : Calls Try.prog 6 #[] w fun e w2 => e = .returned (.bool true) ∧ Chg Non w w2 := by
  go_enter Try.func6, Try.ntmps6
  go_wp2_with fail
  refine (lines_any 6 5 w).mono ?_
  rintro e w1 ⟨v, n, rfl, hown, hC⟩
  rw [al_lines] at hown
  obtain ⟨L, hL⟩ : ∃ L : List Int, [1, 4] = L := ⟨_, rfl⟩
  rw [hL] at hown
  obtain ⟨A, c, rfl, h1, h2, hr, _⟩ := hown.open_
  have hn : n = 2 := by have := hr.lenMap (f := fun n : Int => .int .i64 n); rw [← hL] at this; exact this
  have HL := Lib.hid hL
  subst hn
  clear hown hL
  go_wp2_with fail
  have hB : Rds (w1.alloc (.cells #[.int .i64 1, .int .i64 4] 3)) 1 (some ⟨w1.heap.size, 0, none⟩) 2 (iv L) := by rw [← HL.out]; exact Rds.block (Blk.new _ _ _) rfl
  have hLL : (L == L) = true := beq_self_eq_true _
  refine (sameInts_any _ A 2 c L _ 2 2 L (hr.non ((Chg.refl _ _).alloc _)) hB (by omega)).mono ?_
  rintro e w2 ⟨rfl, hc2⟩
  go_wp2_with fail
  go_ret
  exact ⟨rfl, (hC.alloc _).non hc2⟩
end Go.Proofs.Ytjbiglaohlmknaa
