/-
  gleanerlaw17.BeatLives: the walk.
-/
import Derived.Test.YtfpkhpdbfkclgaaBeatLaw
namespace Go.Proofs.Ytfpkhpdbfkclgaa
open Go.ChangeShapes Go.WideShapes Go.ChangeAt Go.RowKit
set_option linter.unusedVariables false
set_option linter.unusedSimpArgs false

/-- One node: its life, when it was heard of last, is it watched? -/
def tw (m a : Int) (b : Bool) : List Wt := [⟨2, m, a, m, b⟩]
theorem tw_new : newW [2] = tw 1 0 true := rfl
theorem tw_in1 (m a x i : Int) : inB (tw m a true) 2 x i = false := rfl
theorem tw_outs (m a : Int) : outsW (tw m a true) [2] = tw m a false := rfl
theorem tw_nW0 (m a : Int) : nW (tw m a false) 2 = none := rfl
theorem tw_nW1 (m a : Int) : nW (tw m a true) 2 = some (m, a) := rfl
theorem tw_in0 (m a x i : Int) : inB (tw m a false) 2 x i = ((mayB x && mayB i) && decide (m < x)) := rfl
theorem tw_inW (m a x i : Int) : inW (tw m a false) 2 x i = tw x i true := rfl
theorem tw_heard (m a l i : Int) : heardB (tw m a true) 2 l i = (decide (m = l) && (mayB l && mayB i)) := rfl
theorem tw_hear (m a i : Int) : hearW (tw m a true) 2 i = tw m (later a i) true := rfl
theorem later_self (i : Int) : later i i = i := by unfold later; split <;> omega

set_option maxRecDepth 100000 in
set_option maxHeartbeats 8000000 in
theorem beatLives_core (w : World) (A : Option Addr) (n c : Nat) (lv : List Int) (hr : Rds w 1 A n (iv lv)) (hl : ∀ x ∈ lv, i64 x) (hn : n ≤ 60) :
    Calls Try.prog 5 #[.slice A n c] w fun e w2 => e = .returned (.bool true) ∧ Chg Non w w2 := by
  have Hr := Lib.hid hr
  have Hl := Lib.hid hl
  clear hr hl
  go_enter Try.func5, Try.ntmps5
  go_wp2_with fail
  refine (balive_any _).mono ?_
  rintro e w1 ⟨rfl, hc1⟩
  have hb0 : Rds (w1.alloc (.cells #[.int .i64 2] 3)) 1 (some ⟨w1.heap.size, 0, none⟩) 1 (iv [2]) := Rds.block (Blk.new _ _ _) rfl
  have hl : ∀ x ∈ ([2] : List Int), i64 x := by intro x hx; simp at hx; subst hx; exact ⟨by omega, by omega⟩
  have hnew := btNew_any _ 5 _ 1 1 [2] hb0 (by omega) hl
  have hC1 := hc1.alloc (.cells #[.int .i64 2] 3)
  have hs1 := hc1.size
  clear hb0 hl hc1
  go_wp2_with fail
  refine hnew.mono ?_
  rintro e w2 ⟨g, rfl, hB, hc2⟩
  rw [if_neg (by omega), tw_new] at hB
  have hC2 := hC1.non hc2
  obtain ⟨F, hF⟩ : ∃ F : Nat → Prop, (fun b => (w1.alloc (.cells #[.int .i64 2] 3)).heap.size ≤ b ∧ b < w2.heap.size) = F := ⟨_, rfl⟩
  have HF : Hid (∀ b, F b → w.heap.size ≤ b) := fun b h => by
    rw [← hF] at h
    have := h.1
    simp at this
    omega
  rw [hF] at hB
  clear hF hc2 hnew hC1 hs1
  go_wp2_with fail
  go_loopw [5, 6] (fun mv i wr => ∃ (k q : Nat) (m a : Int), k ≤ n ∧ q ≤ 1 + 10 * k ∧ i = .int .i64 k ∧ mv = .int .i64 m ∧ 1 ≤ m ∧ m ≤ 1099511627776 ∧ Bt wr F g 5 (tw m a true) q ∧ Chg Non w wr) (fun _ i _ => n - (intOf i).toNat)
  case atStart => exact ⟨0, 1, 1, 0, Nat.zero_le _, by omega, rfl, rfl, by omega, by omega, hB, hC2⟩
  case round =>
    clear hB hC2
    obtain ⟨k, q, m, a, hk, hq, rfl, rfl, hm1, hm2, hB, hC⟩ := hrel
    by_cases hlt : k < n
    · obtain ⟨ad, x, rfl, hx, hcx⟩ := Hr.out.getI hlt
      have a0 := hC.cell hcx id
      have hxi := Hl.out x (List.mem_of_getElem? hx)
      have hmk : Hid (mayB (k : Int) = true) := mayB_iff.2 (by omega)
      have h2i : i64 2 := ⟨by omega, by omega⟩
      clear hx hcx
      go_wp2_with fail
      refine (btIn_any wr F g 5 _ q 2 x k hB (by omega) h2i).mono ?_
      rintro e w3 ⟨rfl, hB3, hc3⟩
      rw [tw_in1, if_neg Bool.false_ne_true] at hB3
      rw [tw_in1]
      have hC3 := hC.newF hc3 HF.out
      clear hB hC hc3 a0
      go_wp2_with fail
      have hnF : ∀ ad, some (⟨w3.heap.size, 0, none⟩ : Addr) = some ad → ¬ F ad.block := by
        intro ad e h
        obtain rfl := Option.some.inj e
        have := hB3.lt _ h
        simp at this
      have hout := btOut_any (w3.alloc (.cells #[.int .i64 2] 3)) F g 5 _ (q + 1) (some ⟨w3.heap.size, 0, none⟩) 1 1 [2] (hB3.non ((Chg.refl _ _).alloc _)) (Rds.block (Blk.new _ _ _) rfl) (by omega) (by intro x hx; simp at hx; subst hx; exact h2i) hnF
      rw [tw_outs] at hout
      have hC4 := hC3.alloc (.cells #[.int .i64 2] 3)
      clear hnF hB3 hC3
      refine hout.mono ?_
      rintro e w5 ⟨rfl, hB5, hc5⟩
      have hC5 := hC4.newF hc5 HF.out
      clear hC4 hc5 hout
      go_wp2_with fail
      refine (btLife_any w5 F g 5 _ (q + 1) 2 hB5 h2i).mono ?_
      rintro e w6 ⟨rfl, hc6⟩
      rw [tw_nW0]
      simp only [Option.map_none, Option.getD_none, Option.isSome_none]
      have hB6 := hB5.non hc6
      have hC6 := hC5.non hc6
      clear hB5 hC5 hc6
      go_wp2_with fail
      refine (btIn_any w6 F g 5 _ (q + 1) 2 x k hB6 (by omega) h2i).mono ?_
      rintro e w7 ⟨rfl, hB7, hc7⟩
      have hC7 := hC6.newF hc7 HF.out
      clear hB6 hC6 hc7
      by_cases hyes : m < x ∧ x ≤ 1099511627776
      · obtain ⟨y1, y2⟩ := hyes
        have hib : inB (tw m a false) 2 x k = true := by rw [tw_in0, mayB_iff.2 (by omega), hmk.out, decide_eq_true y1]; rfl
        rw [hib, if_pos rfl, tw_inW] at hB7
        rw [hib]
        clear hib
        go_wp2_with fail
        refine (btLife_any w7 F g 5 _ (q + 2) 2 hB7 h2i).mono ?_
        rintro e w20 ⟨rfl, hc20⟩
        rw [tw_nW1]
        simp only [Option.map_some, Option.getD_some, Option.isSome_some]
        have hB20 := hB7.non hc20
        have hC20 := hC7.non hc20
        have hne : (x != x) = false := bne_self_eq_false _
        clear hB7 hC7 hc20
        go_wp2_with fail
        refine (btHeard_any w20 F g 5 _ (q + 2) 2 (x - 1) k hB20 (by omega) h2i).mono ?_
        rintro e w21 ⟨rfl, hB21, hc21⟩
        have hh1 : heardB (tw x k true) 2 (x - 1) k = false := by rw [tw_heard, decide_eq_false (by omega)]; rfl
        rw [hh1, if_neg Bool.false_ne_true] at hB21
        rw [hh1]
        have hC21 := hC20.newF hc21 HF.out
        clear hh1 hB20 hC20 hc21
        go_wp2_with fail
        refine (btHeard_any w21 F g 5 _ (q + 2) 2 x k hB21 (by omega) h2i).mono ?_
        rintro e w22 ⟨rfl, hB22, hc22⟩
        have hh2 : heardB (tw x k true) 2 x k = true := by rw [tw_heard, decide_eq_true rfl, mayB_iff.2 (by omega), hmk.out]; rfl
        rw [hh2, if_pos rfl, tw_hear, later_self] at hB22
        rw [hh2]
        have hC22 := hC21.newF hc22 HF.out
        clear hh2 hB21 hC21 hc22 hne
        go_wp2_with fail
        go_roundw
        case rel => exact ⟨k + 1, (q + 2), x, k, by omega, by omega, by go_num, rfl, by omega, by omega, hB22, hC22⟩
        case measure => simp [intOf]; omega
      · have hib : inB (tw m a false) 2 x k = false := by
          rw [tw_in0]
          by_cases y1 : m < x
          · rw [show mayB x = false by rw [← Bool.not_eq_true, mayB_iff]; omega]; rfl
          · rw [decide_eq_false y1, Bool.and_false]
        rw [hib, if_neg Bool.false_ne_true] at hB7
        rw [hib]
        clear hib
        have hcase : x ≤ m ∨ (m < x ∧ 1099511627776 < x) := by omega
        clear hyes
        rcases hcase with y1 | ⟨y1, y2⟩
        all_goals
          go_wp2_with fail
          refine (btIn_any w7 F g 5 _ (q + 2) 2 (m + 1) k hB7 (by omega) h2i).mono ?_
          rintro e w8 ⟨rfl, hB8, hc8⟩
          have hC8 := hC7.newF hc8 HF.out
          clear hB7 hC7 hc8
          by_cases hg : m + 1 ≤ 1099511627776
          · have hib : inB (tw m a false) 2 (m + 1) k = true := by rw [tw_in0, mayB_iff.2 (by omega), hmk.out, decide_eq_true (by omega)]; rfl
            rw [hib, if_pos rfl, tw_inW] at hB8
            rw [hib]
            obtain ⟨m3, hm3⟩ : ∃ m3, m + 1 = m3 := ⟨_, rfl⟩
            have hm3b : 1 ≤ m3 ∧ m3 ≤ 1099511627776 := by omega
            rw [hm3] at hB8
            clear hib hg y1
            go_wp2_with fail
            clear hm3
            refine (btLife_any w8 F g 5 _ (q + 3) 2 hB8 h2i).mono ?_
            rintro e w20 ⟨rfl, hc20⟩
            rw [tw_nW1]
            simp only [Option.map_some, Option.getD_some, Option.isSome_some]
            have hB20 := hB8.non hc20
            have hC20 := hC8.non hc20
            have hne : (m3 != m3) = false := bne_self_eq_false _
            clear hB8 hC8 hc20
            go_wp2_with fail
            refine (btHeard_any w20 F g 5 _ (q + 3) 2 (m3 - 1) k hB20 (by omega) h2i).mono ?_
            rintro e w21 ⟨rfl, hB21, hc21⟩
            have hh1 : heardB (tw m3 k true) 2 (m3 - 1) k = false := by rw [tw_heard, decide_eq_false (by omega)]; rfl
            rw [hh1, if_neg Bool.false_ne_true] at hB21
            rw [hh1]
            have hC21 := hC20.newF hc21 HF.out
            clear hh1 hB20 hC20 hc21
            go_wp2_with fail
            refine (btHeard_any w21 F g 5 _ (q + 3) 2 m3 k hB21 (by omega) h2i).mono ?_
            rintro e w22 ⟨rfl, hB22, hc22⟩
            have hh2 : heardB (tw m3 k true) 2 m3 k = true := by rw [tw_heard, decide_eq_true rfl, mayB_iff.2 (by omega), hmk.out]; rfl
            rw [hh2, if_pos rfl, tw_hear, later_self] at hB22
            rw [hh2]
            have hC22 := hC21.newF hc22 HF.out
            clear hh2 hB21 hC21 hc22 hne
            go_wp2_with fail
            go_roundw
            case rel => exact ⟨k + 1, (q + 3), m3, k, by omega, by omega, by go_num, rfl, by omega, by omega, hB22, hC22⟩
            case measure => simp [intOf]; omega
          · have hib : inB (tw m a false) 2 (m + 1) k = false := by rw [tw_in0, show mayB (m + 1) = false by rw [← Bool.not_eq_true, mayB_iff]; omega]; rfl
            rw [hib]
            clear hib
            go_wp2_with fail
            go_ret
            exact ⟨rfl, hC8⟩
    · go_wp2_with fail
      go_ret
      exact ⟨rfl, hC⟩
set_option maxRecDepth 100000 in
set_option maxHeartbeats 4000000 in
theorem beatLives_walk (w : World) (A : Option Addr) (n c : Nat) (e0 : Rd Try.prog w 25 (Value.slice A n c).cells.toList) :
    Calls Try.prog 5 #[.slice A n c] w fun e w2 => e = .returned (.bool true) ∧ Chg Non w w2 := by
  obtain ⟨A', n', c', l, g1, g2, g3, g4, g5⟩ := e0.ints Try.underlying25 (by kernel_rfl) Try.underlying3
  simp only [Value.cells, List.cons.injEq, and_true, Value.slice.injEq] at g1
  obtain ⟨rfl, rfl, rfl⟩ := g1
  by_cases hn : n ≤ 60
  · exact beatLives_core w A n c l g4 g5 hn
  · clear g4 e0 g5
    unfold maxLen at g3
    have hn2 : 60 < n := by omega
    clear hn
    go_enter Try.func5, Try.ntmps5
    go_wp2_with fail
    refine (balive_any _).mono ?_
    rintro e w1 ⟨rfl, hc1⟩
    go_wp2_with fail
    go_ret
    exact ⟨rfl, hc1⟩
end Go.Proofs.Ytfpkhpdbfkclgaa
