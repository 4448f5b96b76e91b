/-
  note.parts.
-/
import Derived.Test.YtflaliomkfbagaaNotePlain
import Derived.Test.YtflaliomkfbagaaMaps
namespace Go.Proofs.Ytflaliomkfbagaa
open Go.RowKit
set_option linter.unusedVariables false
set_option linter.unusedSimpArgs false

noncomputable abbrev kKey : KeyKind Try.prog 3 Int := intKey Try.underlying3

section
variable {P : Program} {k : TypeId} {α : Type} [DecidableEq α] {K : KeyKind P k α} {w : World} {g n : Nat} {f : α → Option Value} {ops : Array Oper} {rest : List Oper} {o : Oper} {a : Act} {Q : Exit → Act → World → Prop}
/-- An entry of a literal. -/
theorem wp_insert_Mp (hg : o.guard = none) (m x v : Operand) (t : TypeId) (hop : o.op = Op.insert t m x v) {e : TypeId} (h : Mp K w g n f) (ht : P.underlying t = some (.map k e)) (hn : n < maxLen)
    (hm : a.eval m = .map (some g)) {b : α} (hb : K.ok b) (hx : a.eval x = K.val b) {u : Value} (hv : a.eval v = u)
    (hK : ∀ w2, Mp K w2 g (if (f b).isSome then n else n + 1) (fun c => if c = b then some u else f c) → Chg (fun j => j = g) w w2 → wpList P ops Q rest (a.put o.dst undef) w2) : wpList P ops Q (o :: rest) a w := by
  refine wpList_plain hg fun K' hK' => ?_
  obtain ⟨w2, hrun, r1, r2⟩ := h.store ht hn hb u
  unfold Oper.wp
  simp [execOp, hop, hm, hx, hv, hrun, Result.andThen]
  exact hK' _ _ (hK w2 r1 r2)
end

/-- The literal behind n entries: the rows of the kinds up to n. -/
structure PM (w w2 : World) (g n : Nat) (f : Int → Option Value) : Prop where
  mp : Mp kKey w2 g n f
  rows : ∀ k, 1 ≤ k → k ≤ (n : Int) → ∃ b, f k = some (.slice (some ⟨b, 0, none⟩) (partsL k).length (partsL k).length) ∧ Rds w2 1 (some ⟨b, 0, none⟩) (partsL k).length (iv (partsL k)) ∧ b ≠ g ∧ w.heap.size ≤ b
  none_ : ∀ k, k < 1 ∨ (n : Int) < k → f k = none
  chg : Chg Non w w2
  ge : w.heap.size ≤ g
theorem PM.start (w : World) : PM w (w.alloc (.map #[] 0)) w.heap.size 0 (fun _ => none) :=
  ⟨Mp.made _ _, fun k h1 h2 => by omega, fun _ _ => rfl, (Chg.refl _ _).alloc _, Nat.le_refl _⟩
theorem PM.step {w w2 w3 : World} {g n : Nat} {f : Int → Option Value} (h : PM w w2 g n f) {cs : Array Value} (hcs : cs.toList = iv (partsL ((n : Int) + 1))) {m : Nat}
    (hm3 : Mp kKey w3 g m (fun c => if c = (n : Int) + 1 then some (.slice (some ⟨w2.heap.size, 0, none⟩) (partsL ((n : Int) + 1)).length (partsL ((n : Int) + 1)).length) else f c)) (hmn : m = n + 1)
    (hc : Chg (fun j => j = g) (w2.alloc (.cells cs 3)) w3) : PM w w3 g (n + 1) (fun c => if c = (n : Int) + 1 then some (.slice (some ⟨w2.heap.size, 0, none⟩) (partsL ((n : Int) + 1)).length (partsL ((n : Int) + 1)).length) else f c) := by
  subst hmn
  have hlt := h.mp.lt
  have hA : Chg Non w2 (w2.alloc (.cells cs 3)) := (Chg.refl _ _).alloc _
  refine ⟨hm3, fun k h1 h2 => ?_, fun k hk => ?_, (h.chg.non hA).trans2 hc (fun b e => .inr (by have := h.ge; omega)), h.ge⟩
  · by_cases e : k = (n : Int) + 1
    · subst e
      refine ⟨w2.heap.size, by rw [if_pos rfl], ?_, by omega, h.chg.size⟩
      have hr : Rds (w2.alloc (.cells cs 3)) 1 (some ⟨w2.heap.size, 0, none⟩) (partsL ((n : Int) + 1)).length cs.toList := Rds.block (Blk.new w2 3 cs) (by have := congrArg List.length hcs; simpa [iv] using this)
      rw [hcs] at hr
      exact hr.chg hc (fun ad e2 => by cases e2; show ¬ w2.heap.size = g; omega)
    · obtain ⟨b, e1, e2, e3⟩ := h.rows k h1 (by omega)
      refine ⟨b, by rw [if_neg e]; exact e1, (e2.non hA).chg hc (fun ad e4 => by cases e4; exact e3.1), e3⟩
  · rw [if_neg (by omega)]
    exact h.none_ k (by omega)

set_option maxRecDepth 100000 in
set_option maxHeartbeats 1000000 in
theorem parts_new (w : World) (k : Int) (hk : i64 k) :
    Calls Try.prog 58 #[.int .i64 k] w fun e w2 => ∃ A n c, e = .returned (.slice A n c) ∧ Rds w2 1 A n (iv (partsL k)) ∧ n = (partsL k).length ∧ A.isNone = !isK k ∧ Chg Non w w2 ∧ ∀ ad, A = some ad → w.heap.size ≤ ad.block := by
  have hmm := @run_makeMap Try.prog
  have h0 := PM.start w
  obtain ⟨v0, hv0⟩ : ∃ v0, w.alloc (.map #[] 0) = v0 := ⟨_, rfl⟩
  rw [hv0] at h0
  have hkw : (Lit.int .i64 k).wf = true := by unfold i64 at hk; simp only [Lit.wf, Bool.and_eq_true, decide_eq_true_eq]; exact hk
  go_enter Try.func58, Try.ntmps58
  go_wp2_with (first
    | (refine wp_insert_Mp (K := kKey) rfl (.tmp 4) (.const (.int .i64 1)) (.tmp 5) 138 rfl (h0.mp.alloc (.cells #[.int .i64 2, .int .i64 1] 3)) Try.underlying138 (by unfold maxLen; omega) rfl (b := 1) (show (Lit.int .i64 1).wf = true from by decide) rfl (u := .slice (some ⟨v0.heap.size, 0, none⟩) 2 2) rfl ?_; intro v1 m1 c1; have h1 := h0.step (cs := #[.int .i64 2, .int .i64 1]) rfl m1 (by rw [h0.none_ 1 (by omega)]; rfl) c1)
    | (refine wp_insert_Mp (K := kKey) rfl (.tmp 4) (.const (.int .i64 2)) (.tmp 6) 138 rfl (h1.mp.alloc (.cells #[.int .i64 6] 3)) Try.underlying138 (by unfold maxLen; omega) rfl (b := 2) (show (Lit.int .i64 2).wf = true from by decide) rfl (u := .slice (some ⟨v1.heap.size, 0, none⟩) 1 1) rfl ?_; intro v2 m2 c2; have h2 := h1.step (cs := #[.int .i64 6]) rfl m2 (by rw [h1.none_ 2 (by omega)]; rfl) c2)
    | (refine wp_insert_Mp (K := kKey) rfl (.tmp 4) (.const (.int .i64 3)) (.tmp 7) 138 rfl (h2.mp.alloc (.cells #[.int .i64 0, .int .i64 2] 3)) Try.underlying138 (by unfold maxLen; omega) rfl (b := 3) (show (Lit.int .i64 3).wf = true from by decide) rfl (u := .slice (some ⟨v2.heap.size, 0, none⟩) 2 2) rfl ?_; intro v3 m3 c3; have h3 := h2.step (cs := #[.int .i64 0, .int .i64 2]) rfl m3 (by rw [h2.none_ 3 (by omega)]; rfl) c3)
    | (refine wp_insert_Mp (K := kKey) rfl (.tmp 4) (.const (.int .i64 4)) (.tmp 8) 138 rfl (h3.mp.alloc (.cells #[.int .i64 0, .int .i64 1, .int .i64 3, .int .i64 4] 3)) Try.underlying138 (by unfold maxLen; omega) rfl (b := 4) (show (Lit.int .i64 4).wf = true from by decide) rfl (u := .slice (some ⟨v3.heap.size, 0, none⟩) 4 4) rfl ?_; intro v4 m4 c4; have h4 := h3.step (cs := #[.int .i64 0, .int .i64 1, .int .i64 3, .int .i64 4]) rfl m4 (by rw [h3.none_ 4 (by omega)]; rfl) c4)
    | (refine wp_insert_Mp (K := kKey) rfl (.tmp 4) (.const (.int .i64 5)) (.tmp 9) 138 rfl (h4.mp.alloc (.cells #[.int .i64 0, .int .i64 1, .int .i64 2, .int .i64 3] 3)) Try.underlying138 (by unfold maxLen; omega) rfl (b := 5) (show (Lit.int .i64 5).wf = true from by decide) rfl (u := .slice (some ⟨v4.heap.size, 0, none⟩) 4 4) rfl ?_; intro v5 m5 c5; have h5 := h4.step (cs := #[.int .i64 0, .int .i64 1, .int .i64 2, .int .i64 3]) rfl m5 (by rw [h4.none_ 5 (by omega)]; rfl) c5)
    | (refine wp_insert_Mp (K := kKey) rfl (.tmp 4) (.const (.int .i64 6)) (.tmp 10) 138 rfl (h5.mp.alloc (.cells #[.int .i64 0, .int .i64 1, .int .i64 2, .int .i64 3] 3)) Try.underlying138 (by unfold maxLen; omega) rfl (b := 6) (show (Lit.int .i64 6).wf = true from by decide) rfl (u := .slice (some ⟨v5.heap.size, 0, none⟩) 4 4) rfl ?_; intro v6 m6 c6; have h6 := h5.step (cs := #[.int .i64 0, .int .i64 1, .int .i64 2, .int .i64 3]) rfl m6 (by rw [h5.none_ 6 (by omega)]; rfl) c6)
    | (refine wp_insert_Mp (K := kKey) rfl (.tmp 4) (.const (.int .i64 7)) (.tmp 11) 138 rfl (h6.mp.alloc (.cells #[.int .i64 0, .int .i64 2, .int .i64 3, .int .i64 5] 3)) Try.underlying138 (by unfold maxLen; omega) rfl (b := 7) (show (Lit.int .i64 7).wf = true from by decide) rfl (u := .slice (some ⟨v6.heap.size, 0, none⟩) 4 4) rfl ?_; intro v7 m7 c7; have h7 := h6.step (cs := #[.int .i64 0, .int .i64 2, .int .i64 3, .int .i64 5]) rfl m7 (by rw [h6.none_ 7 (by omega)]; rfl) c7)
    | (refine wp_insert_Mp (K := kKey) rfl (.tmp 4) (.const (.int .i64 8)) (.tmp 12) 138 rfl (h7.mp.alloc (.cells #[.int .i64 3, .int .i64 5] 3)) Try.underlying138 (by unfold maxLen; omega) rfl (b := 8) (show (Lit.int .i64 8).wf = true from by decide) rfl (u := .slice (some ⟨v7.heap.size, 0, none⟩) 2 2) rfl ?_; intro v8 m8 c8; have h8 := h7.step (cs := #[.int .i64 3, .int .i64 5]) rfl m8 (by rw [h7.none_ 8 (by omega)]; rfl) c8)
    | (refine wp_insert_Mp (K := kKey) rfl (.tmp 4) (.const (.int .i64 9)) (.tmp 13) 138 rfl (h8.mp.alloc (.cells #[.int .i64 2, .int .i64 3] 3)) Try.underlying138 (by unfold maxLen; omega) rfl (b := 9) (show (Lit.int .i64 9).wf = true from by decide) rfl (u := .slice (some ⟨v8.heap.size, 0, none⟩) 2 2) rfl ?_; intro v9 m9 c9; have h9 := h8.step (cs := #[.int .i64 2, .int .i64 3]) rfl m9 (by rw [h8.none_ 9 (by omega)]; rfl) c9)
    | (refine wp_insert_Mp (K := kKey) rfl (.tmp 4) (.const (.int .i64 10)) (.tmp 14) 138 rfl (h9.mp.alloc (.cells #[.int .i64 0, .int .i64 2, .int .i64 3, .int .i64 4] 3)) Try.underlying138 (by unfold maxLen; omega) rfl (b := 10) (show (Lit.int .i64 10).wf = true from by decide) rfl (u := .slice (some ⟨v9.heap.size, 0, none⟩) 4 4) rfl ?_; intro v10 m10 c10; have h10 := h9.step (cs := #[.int .i64 0, .int .i64 2, .int .i64 3, .int .i64 4]) rfl m10 (by rw [h9.none_ 10 (by omega)]; rfl) c10))
  obtain ⟨f, hf⟩ : ∃ f, PM w v10 w.heap.size 10 f := ⟨_, h10⟩
  clear h0 h1 h2 h3 h4 h5 h6 h7 h8 h9 h10 m1 m2 m3 m4 m5 m6 m7 m8 m9 m10 c1 c2 c3 c4 c5 c6 c7 c8 c9 c10 hv0
  cases hK : isK k with
  | true =>
    obtain ⟨h1, h2⟩ := isK_iff.1 hK
    obtain ⟨b, e1, e2, _, hge⟩ := hf.rows k h1 h2
    have hl := hf.mp.lookI Try.underlying138 (z := .slice none 0 0) (by kernel_rfl) (a := k) hkw e1
    simp only [Option.getD_some] at hl
    have hC := hf.chg
    rw [hl]
    clear hf e1 hkw hl
    go_wp2_with fail
    go_ret
    exact ⟨_, _, _, rfl, e2, rfl, by rw [hK]; rfl, hC, fun ad e => by cases e; exact hge⟩
  | false =>
    have e1 := hf.none_ k (by have h := hK; unfold isK at h; simp at h; omega)
    have hl := hf.mp.lookI Try.underlying138 (z := .slice none 0 0) (by kernel_rfl) (a := k) hkw e1
    simp only [Option.getD_none] at hl
    have hC := hf.chg
    have hp := parts_no hK
    rw [hl]
    clear hf e1 hkw hl
    go_wp2_with fail
    go_ret
    exact ⟨_, _, _, rfl, by rw [hp]; exact Rds.nil_, by rw [hp]; rfl, by rw [hK]; rfl, hC, fun ad e => by cases e⟩
theorem parts_any (w : World) (k : Int) (hk : i64 k) :
    Calls Try.prog 58 #[.int .i64 k] w fun e w2 => ∃ A n c, e = .returned (.slice A n c) ∧ Rds w2 1 A n (iv (partsL k)) ∧ n = (partsL k).length ∧ A.isNone = !isK k ∧ Chg Non w w2 :=
  (parts_new w k hk).mono fun e w2 ⟨A, n, c, h1, h2, h3, h4, h5, _⟩ => ⟨A, n, c, h1, h2, h3, h4, h5⟩
end Go.Proofs.Ytflaliomkfbagaa
