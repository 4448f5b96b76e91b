/-
  The steps of a region's walk in the order of the text.
-/
import Derived.Test.YtflaliomkfbagaaRegion
namespace Go.Proofs.Ytflaliomkfbagaa
open Go.RowKit

section
variable (P : Program) (ops : Array Oper) (p : Plan) (Q : Act → World → Prop)

/-- The walk, over the operations themselves. -/
def wpX : Nat → List Oper → List Value → (World → Prop) → Facts → Act → Prop
  | _, [], _, S, Γ, a => ∀ w, Chg p.T p.w0 w → S w → (∀ i, Γ i w) → Q a w
  | k, o :: R, vs, S, Γ, a =>
    if k = p.tl then (∀ w, Chg p.T p.w0 w → S w → (∀ i, Γ i w) → p.E a w) else
    if Region.wanted o (yielded ops a.tmps) = true then
      if p.majs.contains k then MajAt P ops p k o vs S a Γ ∧ ∀ v, p.shape k vs v → wpX (k + 1) R (vs ++ [v]) (p.post k vs v) (Γ.set k (p.keep k vs v)) (a.put o.dst v)
      else if p.mins.contains k then ∃ ob kd, MinAt P ops p o a Γ ob kd ∧ ∀ g, wpX (k + 1) R vs S (Γ.set k (Laid p g ob)) (a.put o.dst (mkv kd g))
      else ∃ f, PureAt P ops p o a Γ f ∧ wpX (k + 1) R vs S Γ (a.put o.dst f)
    else wpX (k + 1) R vs S Γ (a.put o.dst undef)
end

section
variable {P : Program} {ops : Array Oper} {p : Plan} {Q : Act → World → Prop} {k : Nat} {R : List Oper} {vs : List Value} {S : World → Prop} {Γ : Facts} {a : Act} {o : Oper}

theorem wpR_of_X : ∀ (R : List Oper) (k : Nat) (vs : List Value) (S : World → Prop) (Γ : Facts) (a : Act), (∀ j, R[j]? = ops[k + j]?) → wpX P ops p Q k R vs S Γ a → wpR P ops p Q (List.range' k R.length) vs S Γ a
  | [], _, _, _, _, _, _, h => h
  | o :: R, k, vs, S, Γ, a, hj, h => by
    have ho : ops[k]? = some o := by simpa using (hj 0).symm
    have hj2 : ∀ j, R[j]? = ops[k + 1 + j]? := fun j => by have := hj (j + 1); simpa [Nat.add_assoc, Nat.add_comm 1 j] using this
    have ih := fun vs S Γ a => wpR_of_X R (k + 1) vs S Γ a hj2
    simp only [List.length_cons, List.range'_succ, wpR]
    unfold wpX at h
    by_cases hkt : k = p.tl
    · rw [if_pos hkt] at h ⊢
      exact h
    rw [if_neg hkt] at h ⊢
    unfold Step
    rw [ho]
    simp only
    split at h
    · rename_i hw
      rw [if_pos hw]
      split at h
      · rename_i hm
        rw [if_pos hm]
        exact ⟨h.1, fun v hv => ih _ _ _ _ (h.2 v hv)⟩
      · rename_i hm
        rw [if_neg hm]
        split at h
        · rename_i hn
          rw [if_pos hn]
          obtain ⟨ob, kd, h1, h2⟩ := h
          exact ⟨ob, kd, h1, fun g => ih _ _ _ _ (h2 g)⟩
        · rename_i hn
          rw [if_neg hn]
          obtain ⟨f, h1, h2⟩ := h
          exact ⟨f, h1, ih _ _ _ _ h2⟩
    · rename_i hw
      rw [if_neg hw]
      exact ih _ _ _ _ h

theorem st_pass (hw : Region.wanted o (yielded ops a.tmps) = false) (h : wpX P ops p Q (k + 1) R vs S Γ (a.put o.dst undef)) (ht : (k == p.tl) = false := by rfl) : wpX P ops p Q k (o :: R) vs S Γ a := by
  unfold wpX
  rw [if_neg (by simpa using ht)]
  rw [if_neg (by rw [hw]; exact Bool.false_ne_true)]
  exact h

theorem st_plain (T : Nat → Prop) (w0 : World) (hT : p.T = T) (h0 : p.w0 = w0) {f : Value} (hw : Region.wanted o (yielded ops a.tmps) = true) (hm : p.majs.contains k = false) (hn : p.mins.contains k = false)
    (hp : ∀ w, Chg T w0 w → (∀ i, usable ops o i = true → Γ i w) → (execOp a.eval o).run P w = .ok (.value f) w)
    (h : wpX P ops p Q (k + 1) R vs S Γ (a.put o.dst f)) (ht : (k == p.tl) = false := by rfl) : wpX P ops p Q k (o :: R) vs S Γ a := by
  subst hT h0
  unfold wpX
  rw [if_neg (by simpa using ht)]
  rw [if_pos hw, if_neg (by rw [hm]; exact Bool.false_ne_true), if_neg (by rw [hn]; exact Bool.false_ne_true)]
  exact ⟨f, fun w hk => hp w hk.1 hk.2, h⟩

theorem st_minor (T : Nat → Prop) (w0 : World) (hT : p.T = T) (h0 : p.w0 = w0) {ob : Obj} {kd : Option (Nat × Nat)} (hw : Region.wanted o (yielded ops a.tmps) = true) (hm : p.majs.contains k = false) (hn : p.mins.contains k = true)
    (hp : ∀ w, Chg T w0 w → (∀ i, usable ops o i = true → Γ i w) → (execOp a.eval o).run P w = .ok (.value (mkv kd w.heap.size)) (w.alloc ob))
    (h : ∀ g, wpX P ops p Q (k + 1) R vs S (Γ.set k (fun w => w0.heap.size ≤ g ∧ w.heap[g]? = some ob)) (a.put o.dst (mkv kd g))) (ht : (k == p.tl) = false := by rfl) : wpX P ops p Q k (o :: R) vs S Γ a := by
  subst hT h0
  unfold wpX
  rw [if_neg (by simpa using ht)]
  rw [if_pos hw, if_neg (by rw [hm]; exact Bool.false_ne_true), if_pos hn]
  exact ⟨ob, kd, fun w hk => hp w hk.1 hk.2, h⟩

theorem st_major (T : Nat → Prop) (w0 : World) (hT : p.T = T) (h0 : p.w0 = w0) (hw : Region.wanted o (yielded ops a.tmps) = true) (hm : p.majs.contains k = true)
    (hsh : ∃ v, p.shape k vs v) (hkeep : ∀ v w w2, Chg T w0 w → Chg T w w2 → p.keep k vs v w → p.keep k vs v w2) (hpost : ∀ v w ob, p.post k vs v w → p.post k vs v (w.alloc ob))
    (hp : ∀ w, Chg T w0 w → (∀ i, usable ops o i = true → Γ i w) → S w → settle P (fun v w2 => p.shape k vs v ∧ Chg T w w2 ∧ p.post k vs v w2 ∧ p.keep k vs v w2) ((execOp a.eval o).run P w))
    (h : ∀ v, p.shape k vs v → wpX P ops p Q (k + 1) R (vs ++ [v]) (p.post k vs v) (Γ.set k (p.keep k vs v)) (a.put o.dst v)) (ht : (k == p.tl) = false := by rfl) : wpX P ops p Q k (o :: R) vs S Γ a := by
  subst hT h0
  unfold wpX
  rw [if_neg (by simpa using ht)]
  rw [if_pos hw, if_pos hm]
  exact ⟨⟨hsh, fun v w w2 h1 h2 h3 => hkeep v w w2 h1 h2 h3, hpost, fun w hk hS => hp w hk.1 hk.2 hS⟩, h⟩

theorem st_end (T : Nat → Prop) (w0 : World) (hT : p.T = T) (h0 : p.w0 = w0) (h : ∀ w, Chg T w0 w → S w → (∀ i, Γ i w) → Q a w) : wpX P ops p Q k [] vs S Γ a := by
  subst hT h0
  exact h

/-- The operations from here on wait for all ahead of them: they are walked as a plain list. -/
theorem st_tail (T : Nat → Prop) (w0 : World) (hT : p.T = T) (h0 : p.w0 = w0) (ht : p.tl = k) (h : ∀ w, Chg T w0 w → S w → (∀ i, Γ i w) → p.E a w) : wpX P ops p Q k (o :: R) vs S Γ a := by
  subst hT h0
  unfold wpX
  rw [if_pos ht.symm]
  exact h

theorem tail_none (L : List Oper) (d : Nat) (tl : Nat) (h : L.length ≤ tl) : tailB L.toArray tl d = true := by
  unfold tailB
  rw [List.all_eq_true]
  intro i hi
  have hi := List.mem_range.1 hi
  rw [List.size_toArray] at hi
  simp; left; omega


/-- At the region: its plan. -/
theorem st_region_at (tl : Nat) (d : Nat) (T : Nat → Prop) (majs mins : List Nat) (post keep : Nat → List Value → Value → World → Prop) (shape : Nat → List Value → Value → Prop) (S : World → Prop) {L : List Oper} {w : World} {id : Nat} {Q : Exit → Act → World → Prop}
    (hm : P.follows .mixedOrders = true) (hok : okB L.toArray majs d = true)
    (hT : ∀ b, T b → b < w.heap.size) (hS : S w.drew) (hSa : ∀ w ob, S w → S (w.alloc ob))
    (h : wpX P L.toArray { T := T, w0 := w, majs := majs, mins := mins, post := post, keep := keep, shape := shape, tl := tl, E := fun _ _ => False } (fun a w => Q .normal a w) 0 L [] S (fun _ _ => True) a) (hl : L.length ≤ tl) : (Code.region id L.toArray true).wp P Q a w := by
  refine wp_region_R (p := { T := T, w0 := w, majs := majs, mins := mins, post := post, keep := keep, shape := shape, tl := tl, E := fun _ _ => False }) d hm hok (tail_none L d _ hl) (fun _ _ h => False.elim h) rfl hT S hS hSa ?_
  have := wpR_of_X L 0 [] S (fun _ _ => True) a (by simp) h
  rw [List.range_eq_range']
  simpa using this
theorem st_region (d : Nat) (T : Nat → Prop) (majs mins : List Nat) (post keep : Nat → List Value → Value → World → Prop) (shape : Nat → List Value → Value → Prop) (S : World → Prop) {L : List Oper} {w : World} {id : Nat} {Q : Exit → Act → World → Prop}
    (hm : P.follows .mixedOrders = true) (hok : okB L.toArray majs d = true)
    (hT : ∀ b, T b → b < w.heap.size) (hS : S w.drew) (hSa : ∀ w ob, S w → S (w.alloc ob))
    (h : wpX P L.toArray { T := T, w0 := w, majs := majs, mins := mins, post := post, keep := keep, shape := shape, tl := 9999, E := fun _ _ => False } (fun a w => Q .normal a w) 0 L [] S (fun _ _ => True) a) (hl : Nat.ble L.length 9999 = true := by rfl) : (Code.region id L.toArray true).wp P Q a w :=
  st_region_at 9999 d T majs mins post keep shape S hm hok hT hS hSa h (Nat.le_of_ble_eq_true hl)
/-- The same, and from 'tl' on each operation waits for all ahead of it. -/
theorem st_region_tail (d tl : Nat) (T : Nat → Prop) (majs mins : List Nat) (post keep : Nat → List Value → Value → World → Prop) (shape : Nat → List Value → Value → Prop) (S : World → Prop) {L : List Oper} {w : World} {id : Nat} {Q : Exit → Act → World → Prop}
    (hm : P.follows .mixedOrders = true) (hok : okB L.toArray majs d = true) (ht : tailB L.toArray tl d = true)
    (hT : ∀ b, T b → b < w.heap.size) (hS : S w.drew) (hSa : ∀ w ob, S w → S (w.alloc ob))
    (h : wpX P L.toArray { T := T, w0 := w, majs := majs, mins := mins, post := post, keep := keep, shape := shape, tl := tl, E := wpList P L.toArray Q (L.drop tl) } (fun a w => Q .normal a w) 0 L [] S (fun _ _ => True) a) : (Code.region id L.toArray true).wp P Q a w := by
  refine wp_region_R (p := { T := T, w0 := w, majs := majs, mins := mins, post := post, keep := keep, shape := shape, tl := tl, E := wpList P L.toArray Q (L.drop tl) }) d hm hok ht (fun a w h => ?_) rfl hT S hS hSa ?_
  · have e := wpOps_eq_wpList (P := P) (ops := L.toArray) (Q := Q) (L.drop tl) tl (fun j => by simp)
    rw [List.length_drop] at e
    rw [List.size_toArray, e]
    exact h
  · have := wpR_of_X L 0 [] S (fun _ _ => True) a (by simp) h
    rw [List.range_eq_range']
    simpa using this
end

theorem settle_enter {P : Program} {K : Value → World → Prop} {f : FuncId} {args : Array Value} {w : World} (h : Calls P f args w fun e w2 => ∃ v, e = .returned v ∧ K v w2) : settle P K (.ok (.enter f args) w) := h
theorem settle_value {P : Program} {K : Value → World → Prop} {v : Value} {w : World} (h : K v w) : settle P K (.ok (.value v) w) := h
theorem settle_skip {P : Program} {K : Value → World → Prop} {w : World} (h : K undef w) : settle P K (.ok .skip w) := h
theorem settle_of {P : Program} {K : Value → World → Prop} {r r2 : Result Next} (e : r = r2) (h : settle P K r2) : settle P K r := e ▸ h
end Go.Proofs.Ytflaliomkfbagaa
