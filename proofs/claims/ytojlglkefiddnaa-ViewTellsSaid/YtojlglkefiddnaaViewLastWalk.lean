/-
  gleanerlaw18.ViewLast: the walk.
-/
import Derived.Test.YtojlglkefiddnaaViewWith
import Derived.Test.YtojlglkefiddnaaViewNewestWalk
namespace Go.Proofs.Ytojlglkefiddnaa
open Go.RowKit
set_option linter.unusedVariables false
set_option linter.unusedSimpArgs false

set_option maxRecDepth 100000 in
set_option maxHeartbeats 1000000 in
/-- There is no epoch behind the last one. -/
theorem without_limit (w : World) (ep : Int) (A : Option Addr) (n c : Nat) (L : List Mb) (B : Option Addr) (m d : Nat) (N : List Int) (h1 : Rds w 2 A n (mv L)) (hn : n ≤ 9223372036854775807) (h2 : Rds w 1 B m (iv N)) (hm : m ≤ 9223372036854775807) (hbad : badB ep L N = false) (hep : ep = 2147483647) :
    Calls Try.prog 10 #[.agg #[.int .i64 ep, .slice A n c], .slice B m d] w fun e w2 => e = .returned (.tuple #[.agg #[.int .i64 0, .slice none 0 0], .int .i64 16]) ∧ Chg Non w w2 := by
  have hmf : ∀ (fn : Fn) (first cap : Array Value) (w : World), (Instr.makeFunc fn first cap).run Try.prog w = .ok (.func fn first cap) w := fun _ _ _ _ => rfl
  obtain ⟨w1, hw1⟩ : ∃ w1, ((w.alloc (.cells #[.int .i64 ep, .slice A n c] 26)).alloc (.cells #[.slice B m d] 22)).alloc (.cells #[.int .i64 0, .slice none 0 0] 26) = w1 := ⟨_, rfl⟩
  have hC : Chg Non w w1 := hw1 ▸ (((Chg.refl _ _).alloc _).alloc _).alloc _
  have hbV : Blk w1 w.heap.size 26 #[.int .i64 ep, .slice A n c] := hw1 ▸ ((Blk.new w _ _).alloc _).alloc _
  have hbN : Blk w1 (w.heap.size + 1) 22 #[.slice B m d] := by
    have := (Blk.new (w.alloc (.cells #[.int .i64 ep, .slice A n c] 26)) 22 #[.slice B m d]).alloc (.cells #[.int .i64 0, .slice none 0 0] 26)
    rw [hw1, World.size_alloc] at this
    exact this
  have hbR : Blk w1 (w.heap.size + 2) 26 #[.int .i64 0, .slice none 0 0] := by
    have := Blk.new ((w.alloc (.cells #[.int .i64 ep, .slice A n c] 26)).alloc (.cells #[.slice B m d] 22)) 26 #[.int .i64 0, .slice none 0 0]
    rw [hw1, World.size_alloc, World.size_alloc] at this
    exact this
  have n0 := hbN.cell 0
  simp only [List.getElem?_toArray, List.getElem?_cons_zero] at n0
  have hN := h2.lenMap (f := fun n : Int => .int .i64 n)
  have hml : ((m : Int) == 0) = N.isEmpty := by
    cases N with
    | nil => have : m = 0 := hN; rw [this]; rfl
    | cons x N => have : m = N.length + 1 := hN; rw [this]; exact beq_eq_false_iff_ne.2 (by omega)
  have hgood : N.any (outB L) = false ∧ mayB ep L = true ∧ N.isEmpty = false := by
    unfold badB at hbad
    cases h1 : N.any (outB L) <;> cases h2 : mayB ep L <;> cases h3 : N.isEmpty <;> simp_all
  obtain ⟨ho, hy, he⟩ := hgood
  have hepb : (ep == 2147483647) = true := beq_iff_eq.2 hep
  have Hml := Lib.hid hml
  clear hml hbad hN hep
  have h1' := h1.non hC
  have h2' := h2.non hC
  have Ho := Lib.hid ho
  have Hy := Lib.hid hy
  clear ho hy
  have He := Lib.hid he
  clear he
  go_enter Try.func10, Try.ntmps10
  go_wp2_with fail
  refine (containsFuncI_any w1 B m d N 26 _ (outB L) h2' hm (enters Try.func26 (by kernel_rfl) rfl) (fun w2 x hc2 _ => without1_any w2 x w.heap.size ep A n c L (hbV.non hc2) (h1'.non hc2) hn)).mono ?_
  rintro e w2 ⟨rfl, hc2⟩
  rw [Ho.out]
  have v0 := (hbV.non hc2).cell 0
  have v1 := (hbV.non hc2).cell 1
  have m0 := (hbN.non hc2).cell 0
  simp only [List.getElem?_toArray, List.getElem?_cons_zero, List.getElem?_cons_succ] at v0 v1 m0
  go_wp2_with fail
  refine (may_any _ ep A n c L (h1'.non hc2) hn).mono ?_
  rintro e w3 ⟨rfl, hc3⟩
  rw [Hy.out]
  have hC3 := (hC.non hc2).non hc3
  have hb3 := (hbR.non hc2).non hc3
  have m03 := ((hbN.non hc2).non hc3).cell 0
  have d0 := hb3.cell 0
  have d1 := hb3.cell 1
  have e0 := hb3.frozen 0
  have e1 := hb3.frozen 1
  simp only [List.getElem?_toArray, List.getElem?_cons_zero, List.getElem?_cons_succ] at d0 d1 m03
  have hb4 := (hb3.put 0 (.int .i64 0)).put 1 (.slice none 0 0)
  simp only [List.setIfInBounds_toArray, List.set_cons_succ, List.set_cons_zero] at hb4
  have r0 := hb4.cell 0
  have r1 := hb4.cell 1
  simp only [List.getElem?_toArray, List.getElem?_cons_zero, List.getElem?_cons_succ] at r0 r1
  have hC4 := (hC3.setCell (p := ⟨w.heap.size + 2, 0, none⟩) (.inr (by simp)) (.int .i64 0)).setCell (p := ⟨w.heap.size + 2, 1, none⟩) (.inr (by simp)) (.slice none 0 0)
  have hmz : ((m : Int) == 0) = false := Hml.out.trans He.out
  have v03 := ((hbV.non hc2).non hc3).cell 0
  simp only [List.getElem?_toArray, List.getElem?_cons_zero, List.getElem?_cons_succ] at v03
  clear hb3 hb4 hbV hbN hbR hc2 hc3 hC3
  go_wp2_with fail
  exact bodyPost_ret (v := .tuple #[.agg #[.int .i64 0, .slice none 0 0], .int .i64 16]) (by simp [results, Try.results10, go_sem, r0, r1]) rfl ⟨rfl, hC4⟩

def L03 : List Mb := [(0, 1), (3, 1)]
def lastE (ep : Int) : Int := if ep < 1 ∨ 2147483647 < ep then 1 else if ep = 2147483647 then 16 else 0
theorem may03 (ep : Int) : mayB ep L03 = countB ep := by
  unfold mayB L03
  simp [okFrom, nodeB, countB]
theorem count03 (ep : Int) : (countB ep = false ∧ (ep < 1 ∨ 2147483647 < ep) ∧ lastE ep = 1) ∨ (countB ep = true ∧ ep = 2147483647 ∧ lastE ep = 16) ∨ (countB ep = true ∧ 1 ≤ ep ∧ ep < 2147483647 ∧ lastE ep = 0) := by
  unfold countB lastE
  by_cases h : ep < 1 ∨ 2147483647 < ep
  · refine .inl ⟨?_, h, if_pos h⟩
    rcases h with h | h
    · rw [decide_eq_false (by omega), Bool.false_and]
    · rw [decide_eq_false (show ¬ ep ≤ 2147483647 by omega), Bool.and_false]
  · rw [if_neg h]
    have h1 : decide (1 ≤ ep) = true := decide_eq_true (by omega)
    have h2 : decide (ep ≤ 2147483647) = true := decide_eq_true (by omega)
    by_cases h3 : ep = 2147483647
    · exact .inr (.inl ⟨by rw [h1, h2]; rfl, h3, if_pos h3⟩)
    · exact .inr (.inr ⟨by rw [h1, h2]; rfl, by omega, by omega, if_neg h3⟩)
theorem bad03 (ep : Int) : badB ep L03 [3] = !countB ep := by
  unfold badB
  rw [may03]
  simp [outB, hasN, L03]
theorem last_without (w : World) (ep : Int) (A : Option Addr) (c : Nat) (B : Option Addr) (d : Nat) (h1 : Rds w 2 A 2 (mv L03)) (h2 : Rds w 1 B 1 (iv [3])) :
    Calls Try.prog 10 #[.agg #[.int .i64 ep, .slice A 2 c], .slice B 1 d] w fun e w2 => ∃ y A' n' c', e = .returned (.tuple #[.agg #[.int .i64 y, .slice A' n' c'], .int .i64 (lastE ep)]) ∧ Chg Non w w2 := by
  rcases count03 ep with ⟨hc, _, he⟩ | ⟨hc, hp, he⟩ | ⟨hc, h3, h4, he⟩
  · rw [he]
    refine (without_no w ep A 2 c L03 B 1 d [3] h1 (by omega) h2 (by omega) (by rw [bad03, hc]; rfl)).mono ?_
    rintro e w2 ⟨rfl, h⟩
    exact ⟨_, _, _, _, rfl, h⟩
  · rw [he]
    refine (without_limit w ep A 2 c L03 B 1 d [3] h1 (by omega) h2 (by omega) (by rw [bad03, hc]; rfl) hp).mono ?_
    rintro e w2 ⟨rfl, h⟩
    exact ⟨_, _, _, _, rfl, h⟩
  · rw [he]
    refine (without_yes w ep A c L03 B 1 d [3] h1 (by decide) h2 (by omega) (by rw [bad03, hc]; rfl) (by omega)).mono ?_
    rintro e w2 ⟨A2, c2, rfl, _, _, h⟩
    exact ⟨_, _, _, _, rfl, h⟩
theorem with03 (ep : Int) : withE ep L03 2 1 = lastE ep := by
  unfold withE
  rw [may03]
  rcases count03 ep with ⟨hc, _, he⟩ | ⟨hc, hp, he⟩ | ⟨hc, h3, h4, he⟩
  · rw [hc, he]; rfl
  · rw [hc, he, hp]; decide
  · rw [hc, he, if_neg (by decide), if_neg (by omega)]
theorem last_with (w : World) (ep : Int) (A : Option Addr) (c : Nat) (h1 : Rds w 2 A 2 (mv L03)) :
    Calls Try.prog 19 #[.agg #[.int .i64 ep, .slice A 2 c], .int .i64 2, .int .i64 1] w fun e w2 => ∃ y A' n' c', e = .returned (.tuple #[.agg #[.int .i64 y, .slice A' n' c'], .int .i64 (lastE ep)]) ∧ Chg Non w w2 := by
  by_cases h : withE ep L03 2 1 = 0
  · have he : lastE ep = 0 := by rw [← with03]; exact h
    rw [he]
    refine (with_yes w ep A 2 c L03 2 1 h1 (by omega) h).mono ?_
    rintro e w2 ⟨A2, c2, rfl, _, hc⟩
    exact ⟨_, _, _, _, rfl, hc⟩
  · refine (with_no w ep A 2 c L03 2 1 h1 (by omega) h).mono ?_
    rintro e w2 ⟨rfl, hc⟩
    rw [with03]
    exact ⟨_, _, _, _, rfl, hc⟩

set_option maxRecDepth 100000 in
set_option maxHeartbeats 4000000 in
theorem viewLast_walk (w : World) (ep : Int) (hi : i64 ep) :
    Calls Try.prog 5 #[.int .i64 ep] w fun e w2 => e = .returned (.bool true) ∧ Chg Non w w2 := by
  have hex : (ep < 1 ∧ lastE ep = 1 ∧ countB ep = false) ∨ (1 ≤ ep ∧ 2147483647 < ep ∧ lastE ep = 1 ∧ countB ep = false) ∨ ((ep == 2147483647) = true ∧ 1 ≤ ep ∧ ep ≤ 2147483647 ∧ lastE ep = 16 ∧ countB ep = true) ∨ ((ep == 2147483647) = false ∧ 1 ≤ ep ∧ ep ≤ 2147483647 ∧ lastE ep = 0 ∧ countB ep = true) := by
    rcases count03 ep with ⟨hc, h, he⟩ | ⟨hc, hp, he⟩ | ⟨hc, h3, h4, he⟩
    · by_cases h5 : ep < 1
      · exact .inl ⟨h5, he, hc⟩
      · exact .inr (.inl ⟨by omega, by omega, he, hc⟩)
    · exact .inr (.inr (.inl ⟨beq_iff_eq.2 hp, by omega, by omega, he, hc⟩))
    · exact .inr (.inr (.inr ⟨beq_eq_false_iff_ne.2 (by omega), by omega, by omega, he, hc⟩))
  obtain ⟨E, hE⟩ : ∃ E, lastE ep = E := ⟨_, rfl⟩
  obtain ⟨C, hCb⟩ : ∃ C, countB ep = C := ⟨_, rfl⟩
  rw [hE, hCb] at hex
  have HE := Lib.hid hE
  have HC := Lib.hid hCb
  clear hE hCb hi
  have Hex := Lib.hid hex
  clear hex
  go_enter Try.func5, Try.ntmps5
  go_wp2_with fail
  refine (view_alive _).mono ?_
  rintro e w1 ⟨rfl, hc1⟩
  obtain ⟨wa, hwa⟩ : ∃ wa, w1.alloc (.cells #[.int .i64 0, .int .i64 1, .int .i64 3, .int .i64 1] 43) = wa := ⟨_, rfl⟩
  obtain ⟨wb, hwb⟩ : ∃ wb, wa.alloc (.cells #[.int .i64 ep, .slice (some ⟨w1.heap.size, 0, none⟩) 2 2] 26) = wb := ⟨_, rfl⟩
  have hM : Blk wa w1.heap.size 43 #[.int .i64 0, .int .i64 1, .int .i64 3, .int .i64 1] := hwa ▸ Blk.new _ _ _
  have hV : Blk wb wa.heap.size 26 #[.int .i64 ep, .slice (some ⟨w1.heap.size, 0, none⟩) 2 2] := hwb ▸ Blk.new _ _ _
  have hsa : wa.heap.size = w1.heap.size + 1 := by rw [← hwa]; simp
  have hcb : Chg Non wa wb := hwb ▸ (Chg.refl _ _).alloc _
  have hC1 : Chg Non w wb := (hc1.trans2 (S2 := Non) (hwa ▸ (Chg.refl _ _).alloc _) (fun _ e => e.elim)).non hcb
  have hR : Rds wb 2 (some ⟨w1.heap.size, 0, none⟩) 2 (mv L03) := Rds.blockN (hM.non hcb) rfl
  rw [hsa] at hV
  have v0 : wb.cell? ⟨w1.heap.size + 1, 0, none⟩ = some (.int .i64 ep) := hV.cell 0
  have v1 : wb.cell? ⟨w1.heap.size + 1, 1, none⟩ = some (.slice (some ⟨w1.heap.size, 0, none⟩) 2 2) := hV.cell 1
  have vl := hV.lt
  have hc3 : Chg Non wb (wb.alloc (.cells #[.int .i64 3] 3)) := (Chg.refl _ _).alloc _
  have HW := Lib.hid (last_without _ ep (some ⟨w1.heap.size, 0, none⟩) 2 (some ⟨wb.heap.size, 0, none⟩) 1 (hR.non hc3) (Rds.block (Blk.new _ _ _) rfl))
  rw [HE.out] at HW
  clear hM hc1 hcb
  go_wp2_with fail
  refine HW.out.mono ?_
  rintro e w2 ⟨y, A', n', c', rfl, hc2⟩
  have hC2 := (hC1.non hc3).non hc2
  have hV2 := (hV.non hc3).non hc2
  have hR2 := (hR.non hc3).non hc2
  obtain ⟨w3, hw3⟩ : ∃ w3, w2.alloc (.cells #[.int .i64 y, .slice A' n' c'] 26) = w3 := ⟨_, rfl⟩
  have hc3 : Chg Non w2 w3 := hw3 ▸ (Chg.refl _ _).alloc _
  have hC3 := hC2.non hc3
  have hV3 := hV2.non hc3
  have hR3 := hR2.non hc3
  have v03 : w3.cell? ⟨w1.heap.size + 1, 0, none⟩ = some (.int .i64 ep) := hV3.cell 0
  have v13 : w3.cell? ⟨w1.heap.size + 1, 1, none⟩ = some (.slice (some ⟨w1.heap.size, 0, none⟩) 2 2) := hV3.cell 1
  have vl3 := hV3.lt
  have HW2 := Lib.hid (last_with w3 ep (some ⟨w1.heap.size, 0, none⟩) 2 hR3)
  rw [HE.out] at HW2
  clear HW hwa hwb hV hV2 hR hR2 hC1 hC2 hc2 hc3 v0 v1 vl
  go_wp2_with fail
  refine HW2.out.mono ?_
  rintro e w4 ⟨y2, A2, n2, c2, rfl, hc4⟩
  obtain ⟨w5, hw5⟩ : ∃ w5, w4.alloc (.cells #[.int .i64 y2, .slice A2 n2 c2] 26) = w5 := ⟨_, rfl⟩
  have hc5 : Chg Non w4 w5 := hw5 ▸ (Chg.refl _ _).alloc _
  have hC5 := (hC3.non hc4).non hc5
  have hV5 := (hV3.non hc4).non hc5
  have hR5 := (hR3.non hc4).non hc5
  have v05 : w5.cell? ⟨w1.heap.size + 1, 0, none⟩ = some (.int .i64 ep) := hV5.cell 0
  have v15 : w5.cell? ⟨w1.heap.size + 1, 1, none⟩ = some (.slice (some ⟨w1.heap.size, 0, none⟩) 2 2) := hV5.cell 1
  have vl5 := hV5.lt
  have HM := Lib.hid (may_any w5 ep (some ⟨w1.heap.size, 0, none⟩) 2 2 L03 hR5 (by omega))
  rw [may03, HC.out] at HM
  clear HW2 hw3 hV3 hR3 hC3 hc4 hc5 hV5 hR5 v03 v13 vl3
  rcases Hex.out with ⟨h1, rfl, rfl⟩ | ⟨h1, h2, rfl, rfl⟩ | ⟨h1, h2, h3, rfl, rfl⟩ | ⟨h1, h2, h3, rfl, rfl⟩
  all_goals
    clear Hex HE HC
    go_wp2_with fail
    refine (num_any _ _).mono ?_
    rintro e w6 ⟨rfl, rfl⟩
    go_wp2_with fail
    refine (num_any _ _).mono ?_
    rintro e w6 ⟨rfl, rfl⟩
    go_wp2_with fail
    refine HM.out.mono ?_
    rintro e w6 ⟨rfl, hc6⟩
    go_wp2_with fail
    go_ret
    exact ⟨rfl, hC5.non hc6⟩
end Go.Proofs.Ytojlglkefiddnaa
