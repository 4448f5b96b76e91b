/-
  What the laws of chapter 20 begin with; the document's picker: Found, Asked.
-/
import Derived.Test.YtiokijldnnkeiaaVictimRef
import Derived.Test.YtiokijldnnkeiaaLaw
namespace Go.Proofs.Ytiokijldnnkeiaa
open Go.RowKit
set_option linter.unusedVariables false
set_option linter.unusedSimpArgs false

theorem PkAt.low {w : World} {base g : Nat} {p : Pk} (h : PkAt w base g p) : base ≤ g := by
  obtain ⟨A, n, c, h1, h2, h3, h4⟩ := h
  exact h4
theorem PkAt.sideP {w w2 : World} {base b2 g g2 : Nat} {p p2 : Pk} (h : PkAt w base g p) (h2 : PkAt w b2 g2 p2) (hne : g ≠ g2) (hc : Chg (fun b => b = g2) w w2) : PkAt w2 base g p := by
  obtain ⟨A, n, c, h1, _⟩ := h2
  exact h.side h1 (by decide) hne hc
theorem PkAt.sideR {w w2 : World} {base g g2 : Nat} {p p2 : Pk} {t0 : Int} (h : PkAt w base g p) (h2 : RAt w g2 p2 t0) (hne : g ≠ g2) (hc : Chg (fun b => b = g2) w w2) : PkAt w2 base g p :=
  h.side h2.blk (by decide) hne hc
theorem RAt.lt {w : World} {g : Nat} {p : Pk} {t0 : Int} (h : RAt w g p t0) : g < w.heap.size := h.blk.lt
theorem Pk.next_nxt (p : Pk) : p.next.2.nxt ≤ p.nxt + 1 := by
  unfold Pk.next
  split
  · exact Int.le_refl _
  · split
    · exact Int.le_refl _
    · show p.nxt ≤ p.nxt + 1; omega
theorem al_lines : linesG 4 0 = [1, 2] := by decide +kernel
theorem al_new : newP 4 0 0 0 = ⟨0, 4, 0, 0, 0, [1, 2]⟩ := by
  have h : newP 4 0 0 0 = ⟨0, 4, 0, 0, 0, linesG 4 0⟩ := rfl
  rw [h, al_lines]
theorem al_1 : Pk.next ⟨0, 4, 0, 0, 0, [1, 2]⟩ = (1, ⟨0, 4, 0, 0, 1, [1, 2]⟩) := rfl
theorem al_2 : Pk.next ⟨0, 4, 0, 0, 1, [1, 2]⟩ = (2, ⟨0, 4, 0, 0, 2, [1, 2]⟩) := rfl
theorem al_3 : Pk.next ⟨0, 4, 0, 0, 2, [1, 2]⟩ = (-1, ⟨0, 4, 0, 0, 2, [1, 2]⟩) := rfl

set_option maxRecDepth 100000 in
theorem alive_any (w : World) : Calls Try.prog 6 #[] w fun e w2 => e = .returned (.bool true) ∧ Chg Non w w2 := by
  go_enter Try.func6, Try.ntmps6
  go_wp2_with fail
  refine (new_any w 4 0 0 0 (by constructor <;> decide)).mono ?_
  rintro e w1 ⟨g, rfl, h1, hC⟩
  have hg := h1.low
  rw [al_new] at h1
  go_wp2_with fail
  refine (next_any w1 _ g _ h1 (by decide)).mono ?_
  rintro e w2 ⟨rfl, h2, hC2⟩
  have hC := hC.trans2 hC2 fun b e => .inr (by rw [e]; exact hg)
  rw [al_1] at h2 ⊢
  go_wp2_with fail
  refine (next_any w2 _ g _ h2 (by decide)).mono ?_
  rintro e w3 ⟨rfl, h3, hC3⟩
  have hC := hC.trans2 hC3 fun b e => .inr (by rw [e]; exact hg)
  rw [al_2] at h3 ⊢
  go_wp2_with fail
  refine (next_any w3 _ g _ h3 (by decide)).mono ?_
  rintro e w4 ⟨rfl, h4, hC4⟩
  have hC := hC.trans2 hC4 fun b e => .inr (by rw [e]; exact hg)
  rw [al_3] at h4 ⊢
  go_wp2_with fail
  go_ret
  exact ⟨rfl, hC⟩

theorem refFound_any (w : World) (g : Nat) (p : Pk) (t0 : Int) (h : RAt w g p t0) :
    Calls Try.prog 13 #[.pointer (some ⟨g, 0, none⟩)] w fun e w2 => e = .returned (.tuple #[]) ∧ RAt w2 g { p with nxt := 0 } t0 ∧ Chg (fun b => b = g) w w2 := by
  obtain ⟨hb, hok, ht64, htr, hln, hno⟩ := h
  have x4 := hb.cell 4
  have x5 := hb.cell 5
  have f4 := hb.frozen 4
  have f5 := hb.frozen 5
  simp only [List.getElem?_toArray, List.getElem?_cons_zero, List.getElem?_cons_succ] at x4 x5
  have hb2 := (hb.put 4 (.int .i64 0)).put 5 (.int .i64 0)
  simp only [List.setIfInBounds_toArray, List.set_cons_succ, List.set_cons_zero] at hb2
  have hS : Chg (fun b => b = g) w ((w.setCell ⟨g, 4, none⟩ (.int .i64 0)).setCell ⟨g, 5, none⟩ (.int .i64 0)) := ((Chg.refl _ _).set1 4 _).set1 5 _
  have hfin := Lib.hid (show RAt ((w.setCell ⟨g, 4, none⟩ (.int .i64 0)).setCell ⟨g, 5, none⟩ (.int .i64 0)) g { p with nxt := 0 } t0 from ⟨hb2, ⟨hok.s0, hok.s1, hok.t0, hok.t1, Int.le_refl _, hok.v, hok.l, hok.x⟩, ht64, htr, hln, fun _ => rfl⟩)
  clear hb2 hok htr hln hno
  go_enter Try.func13, Try.ntmps13
  go_wp2_with fail
  go_end0
  exact ⟨rfl, hfin.out, hS⟩
theorem refAsked_any (w : World) (g : Nat) (p : Pk) (t0 : Int) (h : RAt w g p t0) :
    Calls Try.prog 15 #[.pointer (some ⟨g, 0, none⟩)] w fun e w2 => e = .returned (.int .i64 p.nxt) ∧ w = w2 := by
  have x5 := h.blk.cell 5
  simp only [List.getElem?_toArray, List.getElem?_cons_zero, List.getElem?_cons_succ] at x5
  clear h
  go_enter Try.func15, Try.ntmps15
  go_wp2_with fail
  go_ret
  exact ⟨rfl, rfl⟩
theorem refNext_any (w : World) (g : Nat) (p : Pk) (t0 : Int) (h : RAt w g p t0) (hx : p.nxt ≤ 1000000000) :
    Calls Try.prog 14 #[.pointer (some ⟨g, 0, none⟩)] w (RNextPost w g p t0) := by
  cases ho : okP p.nodes p.self with
  | true => exact refNext_yes w g p t0 h ho hx
  | false => exact refNext_no w g p t0 h ho
end Go.Proofs.Ytiokijldnnkeiaa
