/-
  gleanerref4.checkIns, name.
  gleanerref4.name: it ends, and answers something.
  gleanerref1: HasN, Name, Pops, Pushes, Next.
  gleanerref4.depths: it ends; what it answers fits the code, or nothing does.
-/
import Derived.Test.YteinbdifncdaiaaTdDeepHas
import Derived.Test.YteinbdifncdaiaaTdOwn
import Derived.Test.YteinbdifncdaiaaTdLaw
import Derived.Test.YteinbdifncdaiaaTdRow
import Derived.Test.YteinbdifncdaiaaTdTrace
import Derived.Laws.OwnMore
namespace Go.Proofs.Yteinbdifncdaiaa
open Go.RowKit
set_option linter.unusedVariables false
set_option linter.unusedSimpArgs false

/-- What checkIns answers. -/
def insE (nF cn : Nat) (locs op N : Int) : Int :=
  if ¬ (1 ≤ op ∧ op ≤ 19) ∨ (hasN op = false ∧ N ≠ 0) then 10
  else if (op = 5 ∨ op = 6) ∧ (N < 0 ∨ locs ≤ N) then 13
  else if (op = 14 ∨ op = 15) ∧ (N < 0 ∨ (cn : Int) ≤ N) then 11
  else if op = 16 ∧ (N < 0 ∨ (nF : Int) ≤ N) then 14 else 0
theorem insE_ok {nF : Nat} {f : Fn} {op N : Int} (h : insE nF f.code.length f.locs op N = 0) : InsOk nF f (op, N) := by
  unfold insE at h
  split at h
  · cases h
  · rename_i h1
    split at h
    · cases h
    · rename_i h2
      split at h
      · cases h
      · rename_i h3
        split at h
        · cases h
        · rename_i h4
          rw [not_or] at h1
          have h0 : 1 ≤ op ∧ op ≤ 19 := Classical.not_not.1 h1.1
          refine ⟨h0.1, h0.2, fun e => ?_, fun e => ?_, fun e => ?_⟩
          · show 0 ≤ N ∧ N < f.locs
            have e : op = 5 ∨ op = 6 := e
            by_cases hx : N < 0 ∨ f.locs ≤ N
            · exact absurd ⟨e, hx⟩ h2
            · omega
          · show 0 ≤ N ∧ N < f.code.length
            have e : op = 14 ∨ op = 15 := e
            by_cases hx : N < 0 ∨ (f.code.length : Int) ≤ N
            · exact absurd ⟨e, hx⟩ h3
            · omega
          · show 0 ≤ N ∧ N < nF
            have e : op = 16 := e
            by_cases hx : N < 0 ∨ (nF : Int) ≤ N
            · exact absurd ⟨e, hx⟩ h4
            · omega
theorem name_some {op : Int} (h : 1 ≤ op ∧ op ≤ 19) : nameP op ≠ ⟨#[]⟩ := by
  rcases op_cases op with rfl | rfl | rfl | rfl | rfl | rfl | rfl | rfl | rfl | rfl | rfl | rfl | rfl | rfl | rfl | rfl | rfl | rfl | rfl | hop | hop
  all_goals first | (intro e; revert e; decide) | omega
theorem name_none {op : Int} (h : ¬ (1 ≤ op ∧ op ≤ 19)) : nameP op = ⟨#[]⟩ := by
  unfold nameP
  rw [if_neg h]
set_option maxRecDepth 100000 in
set_option maxHeartbeats 8000000 in
theorem refIns_any (w : World) (j : Jb) (f : Fn) (op N : Int) (hf : f.cn ≤ 9223372036854775807) (hj : j.fn ≤ 9223372036854775807) :
    Calls Try.prog 86 #[.agg (jbC j), .agg (fnC f), .agg #[.int .i64 op, .int .i64 N]] w fun e w2 => e = .returned (.int .i64 (insE j.fn f.cn f.locs op N)) ∧ Chg Non w w2 := by
  obtain ⟨w1, hw1⟩ : ∃ w1, ((w.alloc (.cells (jbC j) 48)).alloc (.cells (fnC f) 67)).alloc (.cells #[.int .i64 op, .int .i64 N] 116) = w1 := ⟨_, rfl⟩
  have hc1 : Chg Non w w1 := hw1 ▸ (((Chg.refl _ _).alloc _).alloc _).alloc _
  have hbJ : Blk w1 w.heap.size 48 (jbC j) := hw1 ▸ ((Blk.new w _ _).alloc _).alloc _
  have hbF : Blk w1 (w.heap.size + 1) 67 (fnC f) := by
    have := ((Blk.new (w.alloc (.cells (jbC j) 48)) 67 (fnC f)).alloc (.cells #[.int .i64 op, .int .i64 N] 116))
    rw [hw1, World.size_alloc] at this
    exact this
  have hbI : Blk w1 (w.heap.size + 2) 116 #[.int .i64 op, .int .i64 N] := by
    have := Blk.new ((w.alloc (.cells (jbC j) 48)).alloc (.cells (fnC f) 67)) 116 #[.int .i64 op, .int .i64 N]
    rw [hw1, World.size_alloc, World.size_alloc] at this
    exact this
  have i0 : w1.cell? ⟨w.heap.size + 2, 0, none⟩ = some (.int .i64 op) := hbI.cell 0
  have i1 : w1.cell? ⟨w.heap.size + 2, 1, none⟩ = some (.int .i64 N) := hbI.cell 1
  have il := hbI.lt
  have HJ := Lib.hid hbJ
  have HF := Lib.hid hbF
  have HI := Lib.hid hbI
  have Hc1 := Lib.hid hc1
  have hH := refHasN_any op w1
  obtain ⟨s, hs⟩ : ∃ s, nameP op = s := ⟨_, rfl⟩
  have hM := refName_any op w1
  rw [hs] at hM
  obtain ⟨b, hb⟩ : ∃ b, hasN op = b := ⟨_, rfl⟩
  rw [hb] at hH
  have hcase : (¬ (1 ≤ op ∧ op ≤ 19) ∧ s = ⟨#[]⟩ ∧ Hid (insE j.fn f.cn f.locs op N = 10)) ∨
      (s ≠ ⟨#[]⟩ ∧ b = false ∧ (N != 0) = true ∧ Hid (insE j.fn f.cn f.locs op N = 10)) ∨
      (s ≠ ⟨#[]⟩ ∧ b = false ∧ (N != 0) = false ∧ ((op == 5) = false ∧ (op == 6) = false ∧ (op == 14) = false ∧ (op == 15) = false ∧ (op == 16) = false) ∧ Hid (insE j.fn f.cn f.locs op N = 0)) ∨
      (s ≠ ⟨#[]⟩ ∧ b = true ∧ op = 1 ∧ Hid (insE j.fn f.cn f.locs op N = 0)) ∨
      (s ≠ ⟨#[]⟩ ∧ b = true ∧ (op = 5 ∨ op = 6) ∧ ((N < 0 ∧ Hid (insE j.fn f.cn f.locs op N = 13)) ∨ (0 ≤ N ∧ f.locs ≤ N ∧ Hid (insE j.fn f.cn f.locs op N = 13)) ∨ (0 ≤ N ∧ N < f.locs ∧ Hid (insE j.fn f.cn f.locs op N = 0)))) ∨
      (s ≠ ⟨#[]⟩ ∧ b = true ∧ (op = 14 ∨ op = 15) ∧ ((N < 0 ∧ Hid (insE j.fn f.cn f.locs op N = 11)) ∨ (0 ≤ N ∧ (f.cn : Int) ≤ N ∧ Hid (insE j.fn f.cn f.locs op N = 11)) ∨ (0 ≤ N ∧ N < f.cn ∧ Hid (insE j.fn f.cn f.locs op N = 0)))) ∨
      (s ≠ ⟨#[]⟩ ∧ b = true ∧ op = 16 ∧ ((N < 0 ∧ Hid (insE j.fn f.cn f.locs op N = 14)) ∨ (0 ≤ N ∧ (j.fn : Int) ≤ N ∧ Hid (insE j.fn f.cn f.locs op N = 14)) ∨ (0 ≤ N ∧ N < j.fn ∧ Hid (insE j.fn f.cn f.locs op N = 0)))) := by
    unfold insE
    by_cases hr : 1 ≤ op ∧ op ≤ 19
    · have hs2 : s ≠ ⟨#[]⟩ := hs ▸ name_some hr
      cases hbb : b with
      | false =>
        rw [hbb] at hb
        have hn : ((op == 5) = false ∧ (op == 6) = false ∧ (op == 14) = false ∧ (op == 15) = false ∧ (op == 16) = false) := by
          unfold hasN at hb
          simp only [Bool.or_eq_false_iff] at hb
          exact ⟨hb.1.1.1.1.2, hb.1.1.1.2, hb.1.1.2, hb.1.2, hb.2⟩
        by_cases hN : N = 0
        · refine .inr (.inr (.inl ⟨hs2, rfl, by rw [hN]; rfl, hn, ?_⟩))
          show _ = _
          obtain ⟨n1, n2, n3, n4, n5⟩ := hn
          rw [beq_eq_false_iff_ne] at n1 n2 n3 n4 n5
          rw [if_neg (by omega), if_neg (by omega), if_neg (by omega), if_neg (by omega)]
        · refine .inr (.inl ⟨hs2, rfl, bne_iff_ne.2 hN, ?_⟩)
          show _ = _
          rw [if_pos (.inr ⟨hb, hN⟩)]
      | true =>
        rw [hbb] at hb
        have h1 : ¬ (¬ (1 ≤ op ∧ op ≤ 19) ∨ (hasN op = false ∧ N ≠ 0)) := by
          rw [hb]
          simp [hr]
        rw [if_neg h1]
        unfold hasN at hb
        simp only [Bool.or_eq_true, beq_iff_eq] at hb
        have hop : op = 1 ∨ (op = 5 ∨ op = 6) ∨ (op = 14 ∨ op = 15) ∨ op = 16 := by omega
        rcases hop with e | e | e | e
        · refine .inr (.inr (.inr (.inl ⟨hs2, rfl, e, ?_⟩)))
          show _ = _
          rw [if_neg (by omega), if_neg (by omega), if_neg (by omega)]
        · refine .inr (.inr (.inr (.inr (.inl ⟨hs2, rfl, e, ?_⟩))))
          by_cases g1 : N < 0
          · exact .inl ⟨g1, by show _ = _; rw [if_pos (by omega)]⟩
          · by_cases g2 : f.locs ≤ N
            · exact .inr (.inl ⟨by omega, g2, by show _ = _; rw [if_pos (by omega)]⟩)
            · exact .inr (.inr ⟨by omega, by omega, by show _ = _; rw [if_neg (by omega), if_neg (by omega), if_neg (by omega)]⟩)
        · refine .inr (.inr (.inr (.inr (.inr (.inl ⟨hs2, rfl, e, ?_⟩)))))
          by_cases g1 : N < 0
          · exact .inl ⟨g1, by show _ = _; rw [if_neg (by omega), if_pos (by omega)]⟩
          · by_cases g2 : (f.cn : Int) ≤ N
            · exact .inr (.inl ⟨by omega, g2, by show _ = _; rw [if_neg (by omega), if_pos (by omega)]⟩)
            · exact .inr (.inr ⟨by omega, by omega, by show _ = _; rw [if_neg (by omega), if_neg (by omega), if_neg (by omega)]⟩)
        · refine .inr (.inr (.inr (.inr (.inr (.inr ⟨hs2, rfl, e, ?_⟩)))))
          by_cases g1 : N < 0
          · exact .inl ⟨g1, by show _ = _; rw [if_neg (by omega), if_neg (by omega), if_pos (by omega)]⟩
          · by_cases g2 : (j.fn : Int) ≤ N
            · exact .inr (.inl ⟨by omega, g2, by show _ = _; rw [if_neg (by omega), if_neg (by omega), if_pos (by omega)]⟩)
            · exact .inr (.inr ⟨by omega, by omega, by show _ = _; rw [if_neg (by omega), if_neg (by omega), if_neg (by omega)]⟩)
    · exact .inl ⟨hr, by rw [← hs, name_none hr], by show _ = _; rw [if_pos (.inl hr)]⟩
  clear hbJ hbF hbI hc1 hs hb
  generalize hE : insE j.fn f.cn f.locs op N = E at hcase ⊢
  clear hE
  unfold jbC fnC at hw1
  unfold jbC fnC
  have hne : s ≠ ⟨#[]⟩ → Hid (s ≠ ⟨#[]⟩) := fun h => h
  rcases hcase with ⟨h1, rfl, he⟩ | ⟨h1, rfl, h2, he⟩ | ⟨h1, rfl, h2, ⟨n1, n2, n3, n4, n5⟩, he⟩ | ⟨h1, rfl, rfl, he⟩ | ⟨h1, rfl, hop, hN⟩ | ⟨h1, rfl, hop, hN⟩ | ⟨h1, rfl, rfl, hN⟩
  · as_aux_lemma =>
      go_enter Try.func86, Try.ntmps86
      go_wp2_with fail
      refine hH.mono ?_
      rintro e w9 ⟨rfl, rfl⟩
      clear hH
      go_wp2_with fail
      refine hM.mono ?_
      rintro e w3 ⟨rfl, hc3⟩
      have hI3 := HI.out.non hc3
      have j0 := hI3.cell 0
      simp only [List.getElem?_toArray, List.getElem?_cons_zero, List.getElem?_cons_succ] at j0
      have j1 : w3.cell? ⟨w.heap.size + 2, 1, none⟩ = some (.int .i64 N) := hI3.cell 1
      have jl := hI3.lt
      have hF3 := HF.out.non hc3
      have f2 : w3.cell? ⟨w.heap.size + 1, 2, none⟩ = some (.int .i64 f.locs) := hF3.cell 2
      have f3 : w3.cell? ⟨w.heap.size + 1, 3, none⟩ = some (.slice f.cA f.cn f.cc) := hF3.cell 3
      have fl := hF3.lt
      have hJ3 := HJ.out.non hc3
      have k0 : w3.cell? ⟨w.heap.size, 0, none⟩ = some (.slice j.fA j.fn j.fc) := hJ3.cell 0
      have kl := hJ3.lt
      have HC := Lib.hid (Hc1.out.non hc3)
      clear hM hI3 hF3 hJ3 i0 i1 il hw1 hc3
      go_wp2_with fail
      go_ret
      exact ⟨by rw [he.out] <;> rfl, HC.out⟩
  · as_aux_lemma =>
      have t1 := str_ne h1
      have t2 : ¬ s.toList = [] := fun e => h1 (by
        rw [ByteArray.toList_eq] at e
        obtain ⟨⟨s⟩⟩ := s
        simp at e
        rw [e])
      have t3 : s.toList.isEmpty = false := by
        cases h : s.toList.isEmpty with
        | false => rfl
        | true => exact absurd (List.isEmpty_iff.1 h) t2
      clear h1 hne t1 t2
      go_enter Try.func86, Try.ntmps86
      go_wp2_with fail
      refine hH.mono ?_
      rintro e w9 ⟨rfl, rfl⟩
      clear hH
      go_wp2_with fail
      refine hM.mono ?_
      rintro e w3 ⟨rfl, hc3⟩
      have hI3 := HI.out.non hc3
      have j0 := hI3.cell 0
      simp only [List.getElem?_toArray, List.getElem?_cons_zero, List.getElem?_cons_succ] at j0
      have j1 : w3.cell? ⟨w.heap.size + 2, 1, none⟩ = some (.int .i64 N) := hI3.cell 1
      have jl := hI3.lt
      have hF3 := HF.out.non hc3
      have f2 : w3.cell? ⟨w.heap.size + 1, 2, none⟩ = some (.int .i64 f.locs) := hF3.cell 2
      have f3 : w3.cell? ⟨w.heap.size + 1, 3, none⟩ = some (.slice f.cA f.cn f.cc) := hF3.cell 3
      have fl := hF3.lt
      have hJ3 := HJ.out.non hc3
      have k0 : w3.cell? ⟨w.heap.size, 0, none⟩ = some (.slice j.fA j.fn j.fc) := hJ3.cell 0
      have kl := hJ3.lt
      have HC := Lib.hid (Hc1.out.non hc3)
      clear hM hI3 hF3 hJ3 i0 i1 il hw1 hc3
      go_wp2_with fail
      go_ret
      exact ⟨by rw [he.out] <;> rfl, HC.out⟩
  · as_aux_lemma =>
      have t1 := str_ne h1
      have t2 : ¬ s.toList = [] := fun e => h1 (by
        rw [ByteArray.toList_eq] at e
        obtain ⟨⟨s⟩⟩ := s
        simp at e
        rw [e])
      have t3 : s.toList.isEmpty = false := by
        cases h : s.toList.isEmpty with
        | false => rfl
        | true => exact absurd (List.isEmpty_iff.1 h) t2
      clear h1 hne t1 t2
      go_enter Try.func86, Try.ntmps86
      go_wp2_with fail
      refine hH.mono ?_
      rintro e w9 ⟨rfl, rfl⟩
      clear hH
      go_wp2_with fail
      refine hM.mono ?_
      rintro e w3 ⟨rfl, hc3⟩
      have hI3 := HI.out.non hc3
      have j0 := hI3.cell 0
      simp only [List.getElem?_toArray, List.getElem?_cons_zero, List.getElem?_cons_succ] at j0
      have j1 : w3.cell? ⟨w.heap.size + 2, 1, none⟩ = some (.int .i64 N) := hI3.cell 1
      have jl := hI3.lt
      have hF3 := HF.out.non hc3
      have f2 : w3.cell? ⟨w.heap.size + 1, 2, none⟩ = some (.int .i64 f.locs) := hF3.cell 2
      have f3 : w3.cell? ⟨w.heap.size + 1, 3, none⟩ = some (.slice f.cA f.cn f.cc) := hF3.cell 3
      have fl := hF3.lt
      have hJ3 := HJ.out.non hc3
      have k0 : w3.cell? ⟨w.heap.size, 0, none⟩ = some (.slice j.fA j.fn j.fc) := hJ3.cell 0
      have kl := hJ3.lt
      have HC := Lib.hid (Hc1.out.non hc3)
      clear hM hI3 hF3 hJ3 i0 i1 il hw1 hc3
      go_wp2_with fail
      go_ret
      exact ⟨by rw [he.out] <;> rfl, HC.out⟩
  · as_aux_lemma =>
      have t1 := str_ne h1
      have t2 : ¬ s.toList = [] := fun e => h1 (by
        rw [ByteArray.toList_eq] at e
        obtain ⟨⟨s⟩⟩ := s
        simp at e
        rw [e])
      have t3 : s.toList.isEmpty = false := by
        cases h : s.toList.isEmpty with
        | false => rfl
        | true => exact absurd (List.isEmpty_iff.1 h) t2
      clear h1 hne t1 t2
      go_enter Try.func86, Try.ntmps86
      go_wp2_with fail
      refine hH.mono ?_
      rintro e w9 ⟨rfl, rfl⟩
      clear hH
      go_wp2_with fail
      refine hM.mono ?_
      rintro e w3 ⟨rfl, hc3⟩
      have hI3 := HI.out.non hc3
      have j0 := hI3.cell 0
      simp only [List.getElem?_toArray, List.getElem?_cons_zero, List.getElem?_cons_succ] at j0
      have j1 : w3.cell? ⟨w.heap.size + 2, 1, none⟩ = some (.int .i64 N) := hI3.cell 1
      have jl := hI3.lt
      have hF3 := HF.out.non hc3
      have f2 : w3.cell? ⟨w.heap.size + 1, 2, none⟩ = some (.int .i64 f.locs) := hF3.cell 2
      have f3 : w3.cell? ⟨w.heap.size + 1, 3, none⟩ = some (.slice f.cA f.cn f.cc) := hF3.cell 3
      have fl := hF3.lt
      have hJ3 := HJ.out.non hc3
      have k0 : w3.cell? ⟨w.heap.size, 0, none⟩ = some (.slice j.fA j.fn j.fc) := hJ3.cell 0
      have kl := hJ3.lt
      have HC := Lib.hid (Hc1.out.non hc3)
      clear hM hI3 hF3 hJ3 i0 i1 il hw1 hc3
      go_wp2_with fail
      go_ret
      exact ⟨by rw [he.out] <;> rfl, HC.out⟩
  · rcases hop with rfl | rfl
    all_goals
      rcases hN with ⟨g1, he⟩ | ⟨g1, g2, he⟩ | ⟨g1, g2, he⟩
      all_goals
        as_aux_lemma =>
          have t1 := str_ne h1
          have t2 : ¬ s.toList = [] := fun e => h1 (by
            rw [ByteArray.toList_eq] at e
            obtain ⟨⟨s⟩⟩ := s
            simp at e
            rw [e])
          have t3 : s.toList.isEmpty = false := by
            cases h : s.toList.isEmpty with
            | false => rfl
            | true => exact absurd (List.isEmpty_iff.1 h) t2
          clear h1 hne t1 t2
          go_enter Try.func86, Try.ntmps86
          go_wp2_with fail
          refine hH.mono ?_
          rintro e w9 ⟨rfl, rfl⟩
          clear hH
          go_wp2_with fail
          refine hM.mono ?_
          rintro e w3 ⟨rfl, hc3⟩
          have hI3 := HI.out.non hc3
          have j0 := hI3.cell 0
          simp only [List.getElem?_toArray, List.getElem?_cons_zero, List.getElem?_cons_succ] at j0
          have j1 : w3.cell? ⟨w.heap.size + 2, 1, none⟩ = some (.int .i64 N) := hI3.cell 1
          have jl := hI3.lt
          have hF3 := HF.out.non hc3
          have f2 : w3.cell? ⟨w.heap.size + 1, 2, none⟩ = some (.int .i64 f.locs) := hF3.cell 2
          have f3 : w3.cell? ⟨w.heap.size + 1, 3, none⟩ = some (.slice f.cA f.cn f.cc) := hF3.cell 3
          have fl := hF3.lt
          have hJ3 := HJ.out.non hc3
          have k0 : w3.cell? ⟨w.heap.size, 0, none⟩ = some (.slice j.fA j.fn j.fc) := hJ3.cell 0
          have kl := hJ3.lt
          have HC := Lib.hid (Hc1.out.non hc3)
          clear hM hI3 hF3 hJ3 i0 i1 il hw1 hc3
          go_wp2_with fail
          go_ret
          exact ⟨by rw [he.out] <;> rfl, HC.out⟩
  · rcases hop with rfl | rfl
    all_goals
      rcases hN with ⟨g1, he⟩ | ⟨g1, g2, he⟩ | ⟨g1, g2, he⟩
      all_goals
        as_aux_lemma =>
          have t1 := str_ne h1
          have t2 : ¬ s.toList = [] := fun e => h1 (by
            rw [ByteArray.toList_eq] at e
            obtain ⟨⟨s⟩⟩ := s
            simp at e
            rw [e])
          have t3 : s.toList.isEmpty = false := by
            cases h : s.toList.isEmpty with
            | false => rfl
            | true => exact absurd (List.isEmpty_iff.1 h) t2
          clear h1 hne t1 t2
          go_enter Try.func86, Try.ntmps86
          go_wp2_with fail
          refine hH.mono ?_
          rintro e w9 ⟨rfl, rfl⟩
          clear hH
          go_wp2_with fail
          refine hM.mono ?_
          rintro e w3 ⟨rfl, hc3⟩
          have hI3 := HI.out.non hc3
          have j0 := hI3.cell 0
          simp only [List.getElem?_toArray, List.getElem?_cons_zero, List.getElem?_cons_succ] at j0
          have j1 : w3.cell? ⟨w.heap.size + 2, 1, none⟩ = some (.int .i64 N) := hI3.cell 1
          have jl := hI3.lt
          have hF3 := HF.out.non hc3
          have f2 : w3.cell? ⟨w.heap.size + 1, 2, none⟩ = some (.int .i64 f.locs) := hF3.cell 2
          have f3 : w3.cell? ⟨w.heap.size + 1, 3, none⟩ = some (.slice f.cA f.cn f.cc) := hF3.cell 3
          have fl := hF3.lt
          have hJ3 := HJ.out.non hc3
          have k0 : w3.cell? ⟨w.heap.size, 0, none⟩ = some (.slice j.fA j.fn j.fc) := hJ3.cell 0
          have kl := hJ3.lt
          have HC := Lib.hid (Hc1.out.non hc3)
          clear hM hI3 hF3 hJ3 i0 i1 il hw1 hc3
          go_wp2_with fail
          go_ret
          exact ⟨by rw [he.out] <;> rfl, HC.out⟩
  · rcases hN with ⟨g1, he⟩ | ⟨g1, g2, he⟩ | ⟨g1, g2, he⟩
    all_goals
      as_aux_lemma =>
        have t1 := str_ne h1
        have t2 : ¬ s.toList = [] := fun e => h1 (by
          rw [ByteArray.toList_eq] at e
          obtain ⟨⟨s⟩⟩ := s
          simp at e
          rw [e])
        have t3 : s.toList.isEmpty = false := by
          cases h : s.toList.isEmpty with
          | false => rfl
          | true => exact absurd (List.isEmpty_iff.1 h) t2
        clear h1 hne t1 t2
        go_enter Try.func86, Try.ntmps86
        go_wp2_with fail
        refine hH.mono ?_
        rintro e w9 ⟨rfl, rfl⟩
        clear hH
        go_wp2_with fail
        refine hM.mono ?_
        rintro e w3 ⟨rfl, hc3⟩
        have hI3 := HI.out.non hc3
        have j0 := hI3.cell 0
        simp only [List.getElem?_toArray, List.getElem?_cons_zero, List.getElem?_cons_succ] at j0
        have j1 : w3.cell? ⟨w.heap.size + 2, 1, none⟩ = some (.int .i64 N) := hI3.cell 1
        have jl := hI3.lt
        have hF3 := HF.out.non hc3
        have f2 : w3.cell? ⟨w.heap.size + 1, 2, none⟩ = some (.int .i64 f.locs) := hF3.cell 2
        have f3 : w3.cell? ⟨w.heap.size + 1, 3, none⟩ = some (.slice f.cA f.cn f.cc) := hF3.cell 3
        have fl := hF3.lt
        have hJ3 := HJ.out.non hc3
        have k0 : w3.cell? ⟨w.heap.size, 0, none⟩ = some (.slice j.fA j.fn j.fc) := hJ3.cell 0
        have kl := hJ3.lt
        have HC := Lib.hid (Hc1.out.non hc3)
        clear hM hI3 hF3 hJ3 i0 i1 il hw1 hc3
        go_wp2_with fail
        go_ret
        exact ⟨by rw [he.out] <;> rfl, HC.out⟩

def SomeB (e : Ending) : Prop := ∃ b, e = .returned (.bool b)
theorem SomeB.of (b : Bool) : SomeB (.returned (.bool b)) := ⟨b, rfl⟩
set_option maxRecDepth 100000 in
set_option maxHeartbeats 4000000 in
theorem refFName_any (w : World) (s : ByteArray) (hs : s.size ≤ 9223372036854775807) :
    Calls Try.prog 85 #[.string s] w fun e w2 => SomeB e ∧ w = w2 := by
  go_enter Try.func85, Try.ntmps85
  go_wp2_with fail
  go_loop [3] (fun i => ∃ k : Nat, k ≤ s.size ∧ k ≤ 21 ∧ i = .int .i64 k) (fun i => s.size - (intOf i).toNat)
  case atStart => exact ⟨0, Nat.zero_le _, by omega, rfl⟩
  case round =>
    obtain ⟨k, hk, hk2, rfl⟩ := hrel
    by_cases hlt : k < s.size
    · by_cases h20 : k ≤ 20
      · go_wp2_with fail
        all_goals first
          | (go_ret
             exact ⟨SomeB.of _, rfl⟩)
          | (go_round
             case rel => exact ⟨k + 1, by omega, by omega, by go_num⟩
             case measure => simp [intOf]; omega)
      · go_wp2_with fail
        all_goals
          go_ret
          exact ⟨SomeB.of _, rfl⟩
    · go_wp2_with fail
      all_goals
        go_ret
        exact ⟨SomeB.of _, rfl⟩

set_option maxRecDepth 100000 in
set_option maxHeartbeats 8000000 in
theorem refPushes_any (w : World) (op N : Int) :
    Calls Try.prog 60 #[.agg #[.int .i64 op, .int .i64 N]] w fun e w2 => e = .returned (.int .i64 (pushP (op, N))) ∧ Chg Non w w2 := by
  rcases op_cases op with rfl | rfl | rfl | rfl | rfl | rfl | rfl | rfl | rfl | rfl | rfl | rfl | rfl | rfl | rfl | rfl | rfl | rfl | rfl | hop | hop
  all_goals
    try have g1 : (op == 1) = false := beq_eq_false_iff_ne.2 (by omega)
    try have g2 : (op == 2) = false := beq_eq_false_iff_ne.2 (by omega)
    try have g3 : (op == 3) = false := beq_eq_false_iff_ne.2 (by omega)
    try have g4 : (op == 4) = false := beq_eq_false_iff_ne.2 (by omega)
    try have g5 : (op == 5) = false := beq_eq_false_iff_ne.2 (by omega)
    try have g6 : (op == 6) = false := beq_eq_false_iff_ne.2 (by omega)
    try have g7 : (op == 7) = false := beq_eq_false_iff_ne.2 (by omega)
    try have g8 : (op == 8) = false := beq_eq_false_iff_ne.2 (by omega)
    try have g9 : (op == 9) = false := beq_eq_false_iff_ne.2 (by omega)
    try have g10 : (op == 10) = false := beq_eq_false_iff_ne.2 (by omega)
    try have g11 : (op == 11) = false := beq_eq_false_iff_ne.2 (by omega)
    try have g12 : (op == 12) = false := beq_eq_false_iff_ne.2 (by omega)
    try have g13 : (op == 13) = false := beq_eq_false_iff_ne.2 (by omega)
    try have g14 : (op == 14) = false := beq_eq_false_iff_ne.2 (by omega)
    try have g15 : (op == 15) = false := beq_eq_false_iff_ne.2 (by omega)
    try have g16 : (op == 16) = false := beq_eq_false_iff_ne.2 (by omega)
    try have g17 : (op == 17) = false := beq_eq_false_iff_ne.2 (by omega)
    try have g18 : (op == 18) = false := beq_eq_false_iff_ne.2 (by omega)
    try have g19 : (op == 19) = false := beq_eq_false_iff_ne.2 (by omega)
    try have g20 : decide (7 ≤ op) = false := decide_eq_false (by omega)
    try have g21 : decide (op ≤ 13) = false := decide_eq_false (by omega)
    go_enter Try.func60, Try.ntmps60
    go_wp2_with fail
    go_ret
    refine ⟨?_, (Chg.refl _ _).alloc _⟩
    first
      | rfl
      | (have h : pushP (op, N) = 0 := by
           unfold pushP
           show (if op = 1 ∨ op = 5 ∨ (7 ≤ op ∧ op ≤ 13) ∨ op = 16 ∨ op = 17 then (1 : Int) else if op = 3 ∨ op = 4 then 2 else 0) = 0
           rw [if_neg (by omega), if_neg (by omega)]
         rw [h] <;> rfl)
      | simp [pushP]

set_option maxRecDepth 100000 in
set_option maxHeartbeats 8000000 in
theorem refNext_any (w : World) (op N : Int) (at_ : Nat) (hat : at_ ≤ 1000000) :
    Calls Try.prog 61 #[.agg #[.int .i64 op, .int .i64 N], .int .i64 at_] w fun e w2 => ∃ A n c, e = .returned (.slice A n c) ∧ n = (nextP (op, N) at_).length ∧ n ≤ 2 ∧ Rds w2 1 A n (iv (nextP (op, N) at_)) ∧ (∀ ad, A = some ad → w.heap.size ≤ ad.block) ∧ Chg Non w w2 := by
  have hwr : IntKind.i64.wrap ((at_ : Int) + 1) = (at_ : Int) + 1 := by rw [IntKind.wrap_i64]; omega
  have hnil : ∀ w2, Rds w2 1 none 0 (iv []) := fun w2 => Rds.nil_
  have h1 : ∀ (wx : World) (g : Nat) (hg : wx.heap.size = g) (x : Int), Rds (wx.alloc (.cells #[.int .i64 x] 3)) 1 (some ⟨g, 0, none⟩) 1 (iv [x]) := fun wx g hg x => hg ▸ Rds.one wx (.int .i64 x) _
  have h2 : ∀ (wx : World) (g : Nat) (hg : wx.heap.size = g) (x y : Int), Rds (wx.alloc (.cells #[.int .i64 x, .int .i64 y] 3)) 1 (some ⟨g, 0, none⟩) 2 (iv [x, y]) := fun wx g hg x y => hg ▸ Rds.blockN (m := 2) (size := 1) (Blk.new wx _ _) rfl
  have H1 := Lib.hid h1
  have H2 := Lib.hid h2
  have H0 := Lib.hid hnil
  clear h1 h2 hnil
  by_cases h15 : op = 15 ∧ N ≠ (at_ : Int) + 1
  · obtain ⟨rfl, hne⟩ := h15
    have t1 : (N != (at_ : Int) + 1) = true := bne_iff_ne.2 hne
    have t2 : (N == (at_ : Int) + 1) = false := beq_eq_false_iff_ne.2 hne
    have hp : Hid (nextP (15, N) at_ = [(at_ : Int) + 1, N]) := by
      show _ = _
      unfold nextP
      rw [if_neg (by show ¬ ((15 : Int) < 1 ∨ (17 : Int) < 15); omega), if_neg (by show ¬ (15 : Int) = 14; omega), if_pos ⟨rfl, hne⟩]
    clear hne
    go_enter Try.func61, Try.ntmps61
    go_wp2_with fail
    go_ret
    rw [hp.out]
    first | exact ⟨_, _, _, rfl, by simp, by omega, H2.out _ _ (by simp) _ _, (fun ad e => by cases e; show w.heap.size ≤ w.heap.size + 1; omega), ((Chg.refl _ _).alloc _).alloc _⟩ | exact ⟨_, _, ⟨_, rfl⟩, by simp, by omega, H2.out _ _ (by simp) _ _, (fun ad e => by cases e; show w.heap.size ≤ w.heap.size + 1; omega), ((Chg.refl _ _).alloc _).alloc _⟩
  · have hno : op = 15 → N = (at_ : Int) + 1 := fun e => by
      by_cases h : N = (at_ : Int) + 1
      · exact h
      · exact absurd ⟨e, h⟩ h15
    have h17 : (∃ x, (1 ≤ op ∧ op ≤ 17) ∧ Hid (nextP (op, N) at_ = [x]) ∧ Hid (op = 14 → x = N) ∧ Hid (op ≠ 14 → x = (at_ : Int) + 1)) ∨ ((op < 1 ∨ 17 < op) ∧ Hid (nextP (op, N) at_ = [])) := by
      by_cases hr : op < 1 ∨ 17 < op
      · exact .inr ⟨hr, by show _ = _; unfold nextP; rw [if_pos hr]⟩
      · by_cases h4 : op = 14
        · exact .inl ⟨N, by omega, by show _ = _; unfold nextP; rw [if_neg hr, if_pos h4], fun _ => rfl, fun h => absurd h4 h⟩
        · exact .inl ⟨_, by omega, by show _ = _; unfold nextP; rw [if_neg hr, if_neg h4, if_neg (fun h => h15 h)], fun h => absurd h h4, fun _ => rfl⟩
    have Hno := Lib.hid hno
    clear h15 hno
    rcases h17 with ⟨x, h17, hp, hx1, hx2⟩ | ⟨h17, hp⟩
    · by_cases h4 : op = 14
      · subst h4
        obtain rfl := hx1.out rfl
        clear h17 hx1 hx2
        go_enter Try.func61, Try.ntmps61
        go_wp2_with fail
        go_ret
        rw [hp.out]
        first | exact ⟨_, _, _, rfl, by simp, by omega, H1.out _ _ (by simp) _, (fun ad e => by cases e; show w.heap.size ≤ w.heap.size + 1; omega), ((Chg.refl _ _).alloc _).alloc _⟩ | exact ⟨_, _, ⟨_, rfl⟩, by simp, by omega, H1.out _ _ (by simp) _, (fun ad e => by cases e; show w.heap.size ≤ w.heap.size + 1; omega), ((Chg.refl _ _).alloc _).alloc _⟩
      · obtain rfl := hx2.out h4
        by_cases h5 : op = 15
        · subst h5
          obtain rfl := Hno.out rfl
          clear h17 hx1 hx2 h4
          go_enter Try.func61, Try.ntmps61
          go_wp2_with fail
          go_ret
          rw [hp.out]
          first | exact ⟨_, _, _, rfl, by simp, by omega, H1.out _ _ (by simp) _, (fun ad e => by cases e; show w.heap.size ≤ w.heap.size + 1; omega), ((Chg.refl _ _).alloc _).alloc _⟩ | exact ⟨_, _, ⟨_, rfl⟩, by simp, by omega, H1.out _ _ (by simp) _, (fun ad e => by cases e; show w.heap.size ≤ w.heap.size + 1; omega), ((Chg.refl _ _).alloc _).alloc _⟩
        · have e4 : (op == 14) = false := beq_eq_false_iff_ne.2 h4
          have e5 : (op == 15) = false := beq_eq_false_iff_ne.2 h5
          obtain ⟨g1, g2⟩ := h17
          clear hx1 hx2 h4 h5
          go_enter Try.func61, Try.ntmps61
          go_wp2_with fail
          go_ret
          rw [hp.out]
          first | exact ⟨_, _, _, rfl, by simp, by omega, H1.out _ _ (by simp) _, (fun ad e => by cases e; show w.heap.size ≤ w.heap.size + 1; omega), ((Chg.refl _ _).alloc _).alloc _⟩ | exact ⟨_, _, ⟨_, rfl⟩, by simp, by omega, H1.out _ _ (by simp) _, (fun ad e => by cases e; show w.heap.size ≤ w.heap.size + 1; omega), ((Chg.refl _ _).alloc _).alloc _⟩
    · rcases h17 with g1 | g1
      · have hd1 := decide_eq_true g1
        go_enter Try.func61, Try.ntmps61
        go_wp2_with fail
        go_ret
        rw [hp.out]
        exact ⟨_, _, _, rfl, by simp, by omega, H0.out _, (fun ad e => by cases e), (Chg.refl _ _).alloc _⟩
      · have hd1 := decide_eq_false (show ¬ op < 1 by omega)
        go_enter Try.func61, Try.ntmps61
        go_wp2_with fail
        go_ret
        rw [hp.out]
        exact ⟨_, _, _, rfl, by simp, by omega, H0.out _, (fun ad e => by cases e), (Chg.refl _ _).alloc _⟩

theorem least_ex (p : Nat → Prop) : ∀ n, p n → ∃ m, p m ∧ ∀ k, p k → m ≤ k := by
  intro n
  induction n using Nat.strongRecOn with
  | ind n ih =>
    intro hn
    by_cases h : ∃ k, k < n ∧ p k
    · obtain ⟨k, h1, h2⟩ := h
      exact ih k h1 h2
    · refine ⟨n, hn, fun k hk => ?_⟩
      by_cases h2 : k < n
      · exact absurd ⟨k, h2, hk⟩ h
      · omega
open Classical in
/-- The least number of which p holds. -/
noncomputable def leastN (p : Nat → Prop) : Nat := if h : ∃ m, p m ∧ ∀ k, p k → m ≤ k then Classical.choose h else 0
theorem leastN_spec {p : Nat → Prop} (h : ∃ n, p n) : p (leastN p) := by
  obtain ⟨n, hn⟩ := h
  have h := least_ex p n hn
  unfold leastN
  rw [dif_pos h]
  exact (Classical.choose_spec h).1
theorem leastN_le {p : Nat → Prop} {n : Nat} (hn : p n) : leastN p ≤ n := by
  have h := least_ex p n hn
  unfold leastN
  rw [dif_pos h]
  exact (Classical.choose_spec h).2 n hn

theorem info_int : (Try.prog.info? 3).map (fun i => (i.zero, i.size, i.bytes)) = some (some (.int .i64 0), 1, 8) := by kernel_rfl
theorem info_bool : (Try.prog.info? 4).map (fun i => (i.zero, i.size, i.bytes)) = some (some (.bool false), 1, 1) := by kernel_rfl
theorem mk_ints (n : Nat) (hn : n ≤ 6000) (w : World) : (Instr.makeSlice 27 (.int .i64 (n : Int)) (.int .i64 (n : Int))).run Try.prog w = .ok (.slice (some ⟨w.heap.size, 0, none⟩) n n) (w.alloc (.cells (iv (List.replicate n 0)).toArray 3)) := by
  obtain ⟨i0, hi, hz0, hz1, hz2⟩ := info_parts info_int
  have h := run_makeSlice (P := Try.prog) (w := w) 27 3 i0 (.int .i64 0) Try.underlying27 hi hz0 .i64 .i64 (n : Int) (n : Int) (by omega) (Int.le_refl _) (by rw [hz1]; simp; omega) (by rw [hz2]; omega) (by omega)
  simp only [Int.toNat_natCast, hz1, Nat.mul_one] at h
  have e : madeCells (Value.int .i64 0).cells n = (iv (List.replicate n 0)).toArray := by
    apply Array.toList_inj.1
    refine (toList_madeCells_one _ n).trans ?_
    simp [iv]
  rw [e] at h
  exact h
theorem mk_bools (n : Nat) (hn : n ≤ 6000) (w : World) : (Instr.makeSlice 113 (.int .i64 (n : Int)) (.int .i64 (n : Int))).run Try.prog w = .ok (.slice (some ⟨w.heap.size, 0, none⟩) n n) (w.alloc (.cells ((List.replicate n false).map Value.bool).toArray 4)) := by
  obtain ⟨i0, hi, hz0, hz1, hz2⟩ := info_parts info_bool
  have h := run_makeSlice (P := Try.prog) (w := w) 113 4 i0 (.bool false) Try.underlying113 hi hz0 .i64 .i64 (n : Int) (n : Int) (by omega) (Int.le_refl _) (by rw [hz1]; simp; omega) (by rw [hz2]; omega) (by omega)
  simp only [Int.toNat_natCast, hz1, Nat.mul_one] at h
  have e : madeCells (Value.bool false).cells n = ((List.replicate n false).map Value.bool).toArray := by
    apply Array.toList_inj.1
    refine (toList_madeCells_one _ n).trans ?_
    simp
  rw [e] at h
  exact h
theorem iv_set (D : List Int) (k : Nat) (v : Int) : (iv D).toArray.setIfInBounds k (.int .i64 v) = (iv (D.set k v)).toArray := by
  rw [List.setIfInBounds_toArray]
  simp [iv, List.map_set]
theorem bo_set (O : List Bool) (k : Nat) (v : Bool) : (O.map Value.bool).toArray.setIfInBounds k (.bool v) = ((O.set k v).map Value.bool).toArray := by
  rw [List.setIfInBounds_toArray]
  simp [List.map_set]
theorem iv_at {D : List Int} {k : Nat} {v : Int} (h : D[k]? = some v) : (iv D).toArray[k]? = some (.int .i64 v) := by simp [iv, h]
theorem bo_at {O : List Bool} {k : Nat} {v : Bool} (h : O[k]? = some v) : (O.map Value.bool).toArray[k]? = some (.bool v) := by simp [h]

/-- Between two rounds of depths: n places are not done. -/
def RelD (w : World) (j : Jb) (f : Fn) (bD bO : Nat) (n : Nat) (wr : World) : Prop :=
  ∃ D O, Blk wr bD 3 (iv D).toArray ∧ Blk wr bO 4 (O.map Value.bool).toArray ∧ D.length = f.cn ∧ O.length = f.cn ∧ n = O.countP (fun b => !b) ∧ Hid (ArgsOk j.F → Dst j.F f.code D O) ∧ Chg Non w wr ∧ Blk wr w.heap.size 48 (jbC j) ∧ Blk wr (w.heap.size + 1) 67 (fnC f)
/-- What depths answers. -/
def DepPost (w : World) (j : Jb) (f : Fn) (e : Ending) (w2 : World) : Prop :=
  ∃ A n c at_ x D, e = .returned (.tuple #[.slice A n c, .int .i64 at_, .int .i64 x]) ∧ Chg Non w w2 ∧
    (ArgsOk j.F → (x = 0 ∧ Closed j.F f.code D ∧ n = f.cn ∧ Rds w2 1 A n (iv D) ∧ ∀ ad, A = some ad → w.heap.size ≤ ad.block ∧ ad.block < w2.heap.size) ∨ (x ≠ 0 ∧ ∀ D2, ¬ Closed j.F f.code D2))
theorem count_set {O : List Bool} {k : Nat} (h : O[k]? = some false) : (O.set k true).countP (fun b => !b) + 1 = O.countP (fun b => !b) := by
  induction O generalizing k with
  | nil => simp at h
  | cons b O ih =>
    cases k with
    | zero =>
      obtain rfl : b = false := by simpa using h
      simp
    | succ k =>
      rw [List.set_cons_succ, List.countP_cons, List.countP_cons]
      have := ih (k := k) (by simpa using h)
      omega
end Go.Proofs.Yteinbdifncdaiaa
