/-
  Which operations a region's operations wait for, as bits: the check of a great region's order, fast.
  A region that draws its order, at whose end one operation stores what a call handed over, while a part of it is taken out (in whatever order): the store, and one operation that takes a part out, may change places.
  The steps of a region's walk, shut in a structure: the elaborator reduces the goal 'wpX ..' at each step, through all that is passed over (four times the work a step); a structure it leaves alone.
  A struct of seven cells stored into a block; stores as operations of a region. Plain.
-/
import Derived.Test.YteinbdifncdaiaaTdRegion
import Derived.Deep.MidRow
import Derived.Test.YteinbdifncdaiaaTdRow
namespace Go.Proofs.Yteinbdifncdaiaa
open Go.RowKit
set_option linter.unusedVariables false
set_option linter.unusedSimpArgs false

section
variable (ops : Array Oper)
def maskOf (at_ : Nat → Nat) (o : Oper) : Nat := o.after.toList.foldr (fun e m => if Region.binds .any e then (1 <<< e.on) ||| (at_ e.on) ||| m else m) 0
/-- Of each operation, the last one first: for whom it waits. -/
def masks : Nat → List Nat
  | 0 => []
  | n + 1 => (match ops[n]? with | some o => maskOf (fun i => (masks n).getD (n - 1 - i) 0) o | none => 0) :: masks n
def maskAt (n i : Nat) : Nat := (masks ops n).getD (n - 1 - i) 0
def pairF (majs : List Nat) : Bool := (List.range ops.size).all fun i => (List.range i).all fun k => (match ops[k]?, ops[i]? with
  | some x, some y => x.apart ops y && y.apart ops x && !(majs.contains k && majs.contains i)
  | _, _ => false) || ((masks ops ops.size).getD (ops.size - 1 - i) 0).testBit k
def okF (majs : List Nat) : Bool := Region.noSelect ops && backB ops && pairF ops majs

theorem maskOf_bit (at_ : Nat → Nat) (k : Nat) : ∀ (l : List _), (l.foldr (fun e m => if Region.binds .any e then (1 <<< e.on) ||| (at_ e.on) ||| m else m) 0).testBit k = true → ∃ e ∈ l, Region.binds .any e = true ∧ (e.on = k ∨ (at_ e.on).testBit k = true)
  | [], h => by simp at h
  | e :: l, h => by
    rw [List.foldr_cons] at h
    by_cases hb : Region.binds .any e = true
    · rw [if_pos hb, Nat.testBit_or, Nat.testBit_or, Bool.or_eq_true, Bool.or_eq_true] at h
      rcases h with (h | h) | h
      · refine ⟨e, by simp, hb, .inl ?_⟩
        rw [Nat.shiftLeft_eq, Nat.one_mul, Nat.testBit_two_pow] at h
        simpa using h
      · exact ⟨e, by simp, hb, .inr h⟩
      · obtain ⟨e2, h1, h2⟩ := maskOf_bit at_ k l h
        exact ⟨e2, by simp [h1], h2⟩
    · rw [if_neg hb] at h
      obtain ⟨e2, h1, h2⟩ := maskOf_bit at_ k l h
      exact ⟨e2, by simp [h1], h2⟩
theorem maskAt_old {n i : Nat} (h : i < n) : maskAt ops (n + 1) i = maskAt ops n i := by
  unfold maskAt
  rw [show n + 1 - 1 - i = (n - 1 - i) + 1 by omega]
  rfl
theorem reach_more : ∀ (f k i : Nat), reach ops f k i = true → reach ops (f + 1) k i = true
  | 0, _, _, h => by simp [reach] at h
  | f + 1, k, i, h => by
    unfold reach at h ⊢
    split at h
    · rename_i o ho
      obtain ⟨e, he, hb⟩ := Array.any_eq_true'.1 h
      refine Array.any_eq_true'.2 ⟨e, he, ?_⟩
      simp only [Bool.and_eq_true, Bool.or_eq_true] at hb ⊢
      exact ⟨hb.1, hb.2.imp id (reach_more f k e.on)⟩
    · cases h
theorem mask_reach (hb : ∀ (i : Nat) (o : Oper), ops[i]? = some o → ∀ e ∈ o.after, Region.binds .any e = true → e.on < i) : ∀ (n i k : Nat), i < n → (maskAt ops n i).testBit k = true → reach ops n k i = true
  | 0, _, _, h, _ => by omega
  | n + 1, i, k, hi, h => by
    by_cases hin : i = n
    · subst hin
      unfold maskAt at h
      rw [show i + 1 - 1 - i = 0 by omega] at h
      unfold masks at h
      rw [List.getD_cons_zero] at h
      unfold reach
      cases ho : ops[i]? with
      | none => rw [ho] at h; simp at h
      | some o =>
        rw [ho] at h
        have h : (maskOf (fun j => (masks ops i).getD (i - 1 - j) 0) o).testBit k = true := h
        obtain ⟨e, he, h1, h2⟩ := maskOf_bit (fun j => (masks ops i).getD (i - 1 - j) 0) k o.after.toList h
        have he' : e ∈ o.after := by simpa using he
        refine Array.any_eq_true'.2 ⟨e, he', ?_⟩
        simp only [Bool.and_eq_true, Bool.or_eq_true]
        refine ⟨h1, ?_⟩
        rcases h2 with h2 | h2
        · exact .inl (beq_iff_eq.2 h2)
        · exact .inr (mask_reach hb i e.on k (hb i o ho e he' h1) h2)
    · rw [maskAt_old ops (by omega)] at h
      exact reach_more ops n k i (mask_reach hb n i k (by omega) h)
theorem okB_of_F {majs : List Nat} (h : okF ops majs = true) : okB ops majs ops.size = true := by
  unfold okF at h
  unfold okB
  simp only [Bool.and_eq_true] at h ⊢
  refine ⟨h.1, ?_⟩
  have hb : ∀ (i : Nat) (o : Oper), ops[i]? = some o → ∀ e ∈ o.after, Region.binds .any e = true → e.on < i := by
    intro i o ho e he h1
    have h9 := h.1.2
    unfold backB at h9
    have hlt := (Array.getElem?_eq_some_iff.1 ho).1
    have h2 := (List.all_eq_true.1 h9) i (List.mem_range.2 hlt)
    rw [ho] at h2
    have h3 := Array.all_eq_true'.1 h2 e he
    rw [h1] at h3
    simpa using h3
  unfold pairB
  rw [List.all_eq_true]
  intro i hi
  rw [List.all_eq_true]
  intro k hk
  have h2 := (List.all_eq_true.1 ((List.all_eq_true.1 h.2) i hi)) k hk
  rw [Bool.or_eq_true] at h2 ⊢
  rcases h2 with h2 | h2
  · exact .inr h2
  · exact .inl (mask_reach ops hb ops.size i k (List.mem_range.1 hi) h2)
end

section
variable (ops : Array Oper)
/-- The operation 'tl' waits for all ahead of it but 'jf'. -/
def lastB (tl jf d : Nat) : Bool := (List.range tl).all fun k => decide (k = jf) || reach ops d k tl
end
section
variable {P : Program} {ops : Array Oper} {p : Plan}

theorem ready_of {listed : Array Bool} {i : Nat} (hback : backB ops = true) (hsz : listed.size = ops.size) (hi : i < ops.size) (h0 : listed.getD i false = false) (hall : ∀ k, k < i → listed.getD k false = true) : i ∈ Region.ready .any ops listed := by
  rw [mem_ready]
  refine ⟨by rw [show listed.getD i true = listed.getD i false by simp [show i < listed.size by omega]]; exact h0, ops[i], Array.getElem?_eq_getElem hi, fun e he hb => ?_⟩
  have hlt : e.on < i := by
    have := (List.all_eq_true.1 hback) i (List.mem_range.2 hi)
    rw [Array.getElem?_eq_getElem hi] at this
    have := Array.all_eq_true_iff_forall_mem.1 this e he
    simpa [hb] using this
  exact hall _ hlt
theorem reach_ready {listed : Array Bool} {d i k : Nat} {oi : Oper} (hcl : ∀ (j : Nat) (o : Oper), ops[j]? = some o → listed.getD j false = true → ∀ e ∈ o.after, Region.binds .any e = true → listed.getD e.on false = true)
    (hoi : ops[i]? = some oi) (hall : ∀ e ∈ oi.after, Region.binds .any e = true → listed.getD e.on false = true) (h1 : reach ops d k i = true) : listed.getD k false = true := by
  cases d with
  | zero => simp [reach] at h1
  | succ d =>
    unfold reach at h1
    rw [hoi] at h1
    simp only at h1
    obtain ⟨e, he, hb⟩ := Array.any_eq_true'.1 h1
    simp only [Bool.and_eq_true, Bool.or_eq_true, beq_iff_eq] at hb
    have h2 := hall e he hb.1
    rcases hb.2 with h3 | h3
    · rw [← h3]; exact h2
    · exact reach_listed hcl d k e.on h2 h3
theorem closed_set {listed : Array Bool} {i : Nat} {oi : Oper} (hi : i < listed.size) (hoi : ops[i]? = some oi) (hall : ∀ e ∈ oi.after, Region.binds .any e = true → listed.getD e.on false = true)
    (hcl : ∀ (j : Nat) (o : Oper), ops[j]? = some o → listed.getD j false = true → ∀ e ∈ o.after, Region.binds .any e = true → listed.getD e.on false = true) :
    ∀ (j : Nat) (o : Oper), ops[j]? = some o → (listed.setIfInBounds i true).getD j false = true → ∀ e ∈ o.after, Region.binds .any e = true → (listed.setIfInBounds i true).getD e.on false = true := by
  intro j o ho hj e he hb
  rw [list_set hi]
  split
  · rfl
  · rw [list_set hi] at hj
    split at hj
    · rename_i hji
      subst hji
      rw [hoi] at ho
      injection ho with ho
      subst ho
      exact hall e he hb
    · exact hcl j o ho hj e he hb
theorem tail_reach {d tl i k : Nat} (ht : tailB ops tl d = true) (hi : i < ops.size) (h1 : tl ≤ i) (h2 : k < i) : reach ops d k i = true := by
  have h3 := (List.all_eq_true.1 ht) i (List.mem_range.2 hi)
  rw [Bool.or_eq_true] at h3
  rcases h3 with h3 | h3
  · have := of_decide_eq_true h3; omega
  · exact (List.all_eq_true.1 h3) k (List.mem_range.2 h2)

theorem last_one {Q : Exit → Act → World → Prop} {d tl : Nat} {otl : Oper} (hback : backB ops = true) (ht : tailB ops (tl + 1) d = true) (hotl : ops[tl]? = some otl) :
    ∀ (fuel : Nat) (listed : Array Bool) (a : Act) (w : World), listed.size = ops.size → (∀ j, j < ops.size → (listed.getD j false = false ↔ tl ≤ j)) → ops.size - tl ≤ fuel →
      (∀ (j : Nat) (o : Oper), ops[j]? = some o → listed.getD j false = true → ∀ e ∈ o.after, Region.binds .any e = true → listed.getD e.on false = true) →
      Region.wanted otl (yielded ops a.tmps) = true → (∃ w2, (execOp a.eval otl).run P w = .ok .skip w2 ∧ wpOps P ops Q (List.range' (tl + 1) (ops.size - (tl + 1))) (a.put otl.dst undef) w2) → wpAny P .any ops Q fuel listed a w := by
  intro fuel listed a w hsz hl hlen hcl hw ⟨w2, hrun, hrest⟩
  have htls : tl < ops.size := (Array.getElem?_eq_some_iff.1 hotl).1
  have htlu := (hl tl htls).2 (Nat.le_refl _)
  cases fuel with
  | zero => omega
  | succ fuel =>
    refine ⟨fun hr => ?_, fun i hi => ?_⟩
    · exfalso
      have := ready_of (listed := listed) hback hsz htls htlu (fun k hk => by
        cases hx : listed.getD k false with
        | true => rfl
        | false => have := (hl k (by omega)).1 hx; omega)
      rw [hr] at this; cases this
    · rw [mem_ready] at hi
      obtain ⟨h0, oi, hoi, hall⟩ := hi
      have hlt := (Array.getElem?_eq_some_iff.1 hoi).1
      rw [show listed.getD i true = listed.getD i false by simp [show i < listed.size by omega]] at h0
      have hki := (hl i hlt).1 h0
      have hik : i = tl := by
        rcases Nat.lt_or_ge tl i with h2 | h2
        · have := reach_ready hcl hoi hall (tail_reach ht hlt h2 h2)
          rw [htlu] at this; cases this
        · omega
      subst hik
      rw [hotl] at hoi
      injection hoi with hoi
      subst hoi
      unfold wpOp
      rw [hotl]
      simp only [hw, if_true]
      left
      unfold Oper.wp
      rw [hrun]
      refine wpAny_of_tail hback ht fuel (i + 1) _ _ w2 (by simpa using hsz) (fun j hj => ?_) (by omega) (closed_set (by omega) hotl hall hcl) (Nat.le_refl _) hrest
      rw [list_set (by omega)]
      by_cases hji : j = i
      · subst hji; simp
      · rw [if_neg hji, hl j hj]; omega

theorem last_two {Q : Exit → Act → World → Prop} {d tl jf : Nat} {oj otl : Oper} {f : Value} (hs : Region.noSelect ops = true) (hback : backB ops = true) (ht : tailB ops (tl + 1) d = true) (hjt : jf < tl) (hoj : ops[jf]? = some oj) (hotl : ops[tl]? = some otl)
    (hap : reach ops d jf tl = true ∨ (oj.apart ops otl = true ∧ otl.apart ops oj = true)) :
    ∀ (fuel : Nat) (listed : Array Bool) (a : Act) (w : World), listed.size = ops.size → (∀ j, j < ops.size → (listed.getD j false = false ↔ (tl ≤ j ∨ j = jf))) → ops.size - tl + 1 ≤ fuel →
      (∀ (j : Nat) (o : Oper), ops[j]? = some o → listed.getD j false = true → ∀ e ∈ o.after, Region.binds .any e = true → listed.getD e.on false = true) →
      Region.wanted oj (yielded ops a.tmps) = true → (∀ w, (execOp a.eval oj).run P w = .ok (.value f) w) →
      Region.wanted otl (yielded ops (a.put oj.dst f).tmps) = true → (∃ w2, (execOp (a.put oj.dst f).eval otl).run P w = .ok .skip w2 ∧ wpOps P ops Q (List.range' (tl + 1) (ops.size - (tl + 1))) ((a.put oj.dst f).put otl.dst undef) w2) → wpAny P .any ops Q fuel listed a w := by
  intro fuel listed a w hsz hl hlen hcl hwj hrj hw hE
  have htls : tl < ops.size := (Array.getElem?_eq_some_iff.1 hotl).1
  have htlu := (hl tl htls).2 (.inl (Nat.le_refl _))
  have hju := (hl jf (by omega)).2 (.inr rfl)
  cases fuel with
  | zero => omega
  | succ fuel =>
    refine ⟨fun hr => ?_, fun i hi => ?_⟩
    · exfalso
      have := ready_of (listed := listed) hback hsz (show jf < ops.size by omega) hju (fun k hk => by
        cases hx : listed.getD k false with
        | true => rfl
        | false => have := (hl k (by omega)).1 hx; omega)
      rw [hr] at this; cases this
    · rw [mem_ready] at hi
      obtain ⟨h0, oi, hoi, hall⟩ := hi
      have hlt := (Array.getElem?_eq_some_iff.1 hoi).1
      rw [show listed.getD i true = listed.getD i false by simp [show i < listed.size by omega]] at h0
      have hki := (hl i hlt).1 h0
      have hik : i = tl ∨ i = jf := by
        rcases hki with hki | hki
        · rcases Nat.lt_or_ge tl i with h2 | h2
          · have := reach_ready hcl hoi hall (tail_reach ht hlt h2 h2)
            rw [htlu] at this; cases this
          · exact .inl (by omega)
        · exact .inr hki
      rcases hik with rfl | rfl
      · rw [hotl] at hoi
        injection hoi with hoi
        subst hoi
        have hap2 : oj.apart ops otl = true ∧ otl.apart ops oj = true := by
          rcases hap with h1 | h1
          · have := reach_ready hcl hotl hall h1
            rw [hju] at this; cases this
          · exact h1
        obtain ⟨h1, h2⟩ := hap2
        obtain ⟨w2, hrun, hrest⟩ := hE
        have e1 : execOp (a.put oj.dst f).eval otl = execOp a.eval otl := execOp_put (ops := ops) otl (fun cs b => Region.noSelect_spec hs i otl cs b hotl) a oj.dst f (Oper.apart_spec h1).1
        have e2 : execOp (a.put otl.dst undef).eval oj = execOp a.eval oj := execOp_put (ops := ops) oj (fun cs b => Region.noSelect_spec hs jf oj cs b hoj) a otl.dst undef (Oper.apart_spec h2).1
        have e3 : Region.wanted otl (yielded ops (a.put oj.dst f).tmps) = Region.wanted otl (yielded ops a.tmps) := wanted_put otl a oj.dst f (Oper.apart_spec h1).1
        have e4 : Region.wanted oj (yielded ops (a.put otl.dst undef).tmps) = Region.wanted oj (yielded ops a.tmps) := wanted_put oj a otl.dst undef (Oper.apart_spec h2).1
        have e5 : (a.put otl.dst undef).put oj.dst f = (a.put oj.dst f).put otl.dst undef := Act.put_comm a undef f (Oper.apart_spec h2).2.1
        rw [e1] at hrun
        rw [e3] at hw
        unfold wpOp
        rw [hotl]
        simp only [hw, if_true]
        left
        unfold Oper.wp
        rw [hrun]
        have hl2 : ∀ j, j < ops.size → ((listed.setIfInBounds i true).getD j false = false ↔ (i + 1 ≤ j ∨ j = jf)) := fun j hj => by
          rw [list_set (by omega)]
          by_cases hji : j = i
          · subst hji; simp; omega
          · rw [if_neg hji, hl j hj]; omega
        have hcl2 := closed_set (listed := listed) (by omega) hotl hall hcl
        have hsz2 : (listed.setIfInBounds i true).size = ops.size := by simpa using hsz
        show wpAny P .any ops Q fuel (listed.setIfInBounds i true) (a.put otl.dst undef) w2
        generalize listed.setIfInBounds i true = L2 at hl2 hcl2 hsz2
        have hju2 := (hl2 jf (by omega)).2 (.inr rfl)
        cases fuel with
        | zero => omega
        | succ fuel =>
          refine ⟨fun hr => ?_, fun i2 hi2 => ?_⟩
          · exfalso
            have := ready_of (listed := L2) hback hsz2 (show jf < ops.size by omega) hju2 (fun k hk => by
              cases hx : L2.getD k false with
              | true => rfl
              | false => have := (hl2 k (by omega)).1 hx; omega)
            rw [hr] at this; cases this
          · rw [mem_ready] at hi2
            obtain ⟨g0, o2, ho2, hall2⟩ := hi2
            have hlt2 := (Array.getElem?_eq_some_iff.1 ho2).1
            rw [show L2.getD i2 true = L2.getD i2 false by simp [show i2 < L2.size by omega]] at g0
            have hik2 : i2 = jf := by
              rcases (hl2 i2 hlt2).1 g0 with h4 | h4
              · have := reach_ready hcl2 ho2 hall2 (tail_reach ht hlt2 h4 (show jf < i2 by omega))
                rw [hju2] at this; cases this
              · exact h4
            subst hik2
            rw [hoj] at ho2
            injection ho2 with ho2
            subst ho2
            unfold wpOp
            rw [hoj]
            simp only [e4, hwj, if_true]
            left
            unfold Oper.wp
            rw [e2, hrj w2]
            show wpAny P .any ops Q fuel _ ((a.put otl.dst undef).put oj.dst f) w2
            rw [e5]
            refine wpAny_of_tail hback ht fuel (i + 1) _ _ w2 (by simpa using hsz2) (fun j hj => ?_) (by omega) (closed_set (by omega) hoj hall2 hcl2) (Nat.le_refl _) hrest
            rw [list_set (by omega)]
            by_cases hji : j = i2
            · subst hji; simp; omega
            · rw [if_neg hji, hl2 j hj]; omega
      · rw [hoj] at hoi
        injection hoi with hoi
        subst hoi
        unfold wpOp
        rw [hoj]
        simp only [hwj, if_true]
        left
        unfold Oper.wp
        rw [hrj w]
        refine last_one hback ht hotl fuel _ _ w (by simpa using hsz) (fun j hj => ?_) (by omega) (closed_set (by omega) hoj hall hcl) hw hE
        rw [list_set (by omega)]
        by_cases hji : j = i
        · subst hji; simp; omega
        · rw [if_neg hji, hl j hj]; omega

theorem wpAny_of_RF {Q : Exit → Act → World → Prop} {d jf : Nat} {oj otl : Oper} (hok : okB ops p.majs d = true) (ht : tailB ops (p.tl + 1) d = true) (ht0 : lastB ops p.tl jf d = true) (hjt : jf < p.tl) (hoj : ops[jf]? = some oj) (hotl : ops[p.tl]? = some otl) (hjm : p.majs.contains jf = false) (hjn : p.mins.contains jf = false)
    (hjw : ∀ a : Act, Region.wanted oj (yielded ops a.tmps) = true) (hjr : ∀ (a : Act) (f : Value) (w w2 : World), (execOp a.eval oj).run P w = .ok (.value f) w → (execOp a.eval oj).run P w2 = .ok (.value f) w2)
    (hE : ∀ a w, p.E a w → Region.wanted otl (yielded ops a.tmps) = true ∧ ∃ w2, (execOp a.eval otl).run P w = .ok .skip w2 ∧ wpOps P ops Q (List.range' (p.tl + 1) (ops.size - (p.tl + 1))) (a.put otl.dst undef) w2) (hT : ∀ b, p.T b → b < p.w0.heap.size) :
    ∀ (fuel : Nat) (listed : Array Bool) (l : List Nat) (vs : List Value) (S : World → Prop) (Γ : Facts) (a : Act) (w : World),
      listed.size = ops.size → (∀ j, j ∈ l ↔ j < ops.size ∧ listed.getD j false = false) → l.Pairwise (· < ·) → l.length ≤ fuel →
      (∀ (j : Nat) (o : Oper), ops[j]? = some o → listed.getD j false = true → ∀ e ∈ o.after, Region.binds .any e = true → listed.getD e.on false = true) →
      (p.tl < ops.size → p.tl ∈ l) → Chg p.T p.w0 w → S w → (∀ w ob, S w → S (w.alloc ob)) → (∀ i, Γ i w) → (∀ i, Stable p (Γ i)) →
      wpR P ops p (fun a w => Q .normal a w) l vs S Γ a → wpAny P .any ops Q fuel listed a w := by
  simp only [okB, Bool.and_eq_true] at hok
  obtain ⟨⟨hs, hback⟩, hpair⟩ := hok
  have trueOf : ∀ {listed : Array Bool} {j : Nat}, listed.size = ops.size → j < ops.size → listed.getD j true = listed.getD j false := by
    intro listed j h1 h2
    simp [show j < listed.size by omega]
  have readyNil : ∀ {listed : Array Bool} {l : List Nat}, listed.size = ops.size → (∀ j, j ∈ l ↔ j < ops.size ∧ listed.getD j false = false) → l.Pairwise (· < ·) → Region.ready .any ops listed = [] → l = [] := by
    intro listed l hsz hl hsort hr
    cases l with
    | nil => rfl
    | cons i l =>
      exfalso
      have hi := (hl i).1 (by simp)
      have hmem : i ∈ Region.ready .any ops listed := by
        rw [mem_ready]
        refine ⟨by rw [trueOf hsz hi.1]; exact hi.2, ops[i], Array.getElem?_eq_getElem hi.1, fun e he hb => ?_⟩
        have hlt : e.on < i := by
          have := (List.all_eq_true.1 hback) i (List.mem_range.2 hi.1)
          rw [Array.getElem?_eq_getElem hi.1] at this
          have := Array.all_eq_true_iff_forall_mem.1 this e he
          simpa [hb] using this
        cases hx : listed.getD e.on false with
        | true => rfl
        | false =>
          have := (hl e.on).2 ⟨by omega, hx⟩
          rcases List.mem_cons.1 this with h | h
          · omega
          · have := (List.pairwise_cons.1 hsort).1 e.on h
            omega
      rw [hr] at hmem
      cases hmem
  intro fuel
  induction fuel with
  | zero =>
    intro listed l vs S Γ a w hsz hl hsort hlen hcl htm hC hS hSa hΓ hΓs h
    have hl0 : l = [] := List.eq_nil_of_length_eq_zero (by omega)
    subst hl0
    refine ⟨?_, h w hC hS hΓ⟩
    cases hr : Region.ready .any ops listed with
    | nil => rfl
    | cons j rs =>
      exfalso
      have hj : j ∈ Region.ready .any ops listed := by rw [hr]; simp
      rw [mem_ready] at hj
      obtain ⟨h0, o, ho, _⟩ := hj
      have hlt := (Array.getElem?_eq_some_iff.1 ho).1
      rw [trueOf hsz hlt] at h0
      have := (hl j).2 ⟨hlt, h0⟩
      cases this
  | succ fuel ih =>
    intro listed l vs S Γ a w hsz hl hsort hlen hcl htm hC hS hSa hΓ hΓs h
    have reached : ∀ (i k : Nat) (oi : Oper), ops[i]? = some oi → (∀ e ∈ oi.after, Region.binds .any e = true → listed.getD e.on false = true) → reach ops d k i = true → listed.getD k false = true := by
      intro i k oi hoi hall h1
      cases d with
      | zero => simp [reach] at h1
      | succ d =>
        unfold reach at h1
        rw [hoi] at h1
        simp only at h1
        obtain ⟨e, he, hb⟩ := Array.any_eq_true'.1 h1
        simp only [Bool.and_eq_true, Bool.or_eq_true, beq_iff_eq] at hb
        have h2 := hall e he hb.1
        rcases hb.2 with h3 | h3
        · rw [← h3]; exact h2
        · exact reach_listed hcl d k e.on h2 h3
    have forced : ∀ (i k : Nat), i < ops.size → p.tl + 1 ≤ i → k < i → reach ops d k i = true := by
      intro i k hi h1 h2
      have h3 := (List.all_eq_true.1 ht) i (List.mem_range.2 hi)
      rw [Bool.or_eq_true] at h3
      rcases h3 with h3 | h3
      · have := of_decide_eq_true h3; omega
      · exact (List.all_eq_true.1 h3) k (List.mem_range.2 h2)
    have forced0 : ∀ k, k < p.tl → k ≠ jf → reach ops d k p.tl = true := by
      intro k h1 h2
      have h3 := (List.all_eq_true.1 ht0) k (List.mem_range.2 h1)
      rw [Bool.or_eq_true] at h3
      rcases h3 with h3 | h3
      · exact absurd (of_decide_eq_true h3) h2
      · exact h3
    have htls : p.tl < ops.size := (Array.getElem?_eq_some_iff.1 hotl).1
    have htlm := htm htls
    have htlu := ((hl p.tl).1 htlm).2
    have uns : ∀ i, i < ops.size → p.tl < i → listed.getD i false = false := fun i hi h1 => by
      cases hx : listed.getD i false with
      | false => rfl
      | true =>
        have := reached i p.tl ops[i] (Array.getElem?_eq_getElem hi) (hcl i _ (Array.getElem?_eq_getElem hi) hx) (forced i p.tl hi h1 h1)
        rw [htlu] at this; cases this
    by_cases hhead : ∃ post, l = p.tl :: post
    · obtain ⟨post, rfl⟩ := hhead
      have hll : ∀ i, i < p.tl → listed.getD i false = true := fun i hi => by
        cases hx : listed.getD i false with
        | true => rfl
        | false =>
          have := (hl i).2 ⟨by omega, hx⟩
          rcases List.mem_cons.1 this with h3 | h3
          · omega
          · have := (List.pairwise_cons.1 hsort).1 i h3
            omega
      simp only [wpR, if_true] at h
      have hE2 := hE _ _ (h w hC hS hΓ)
      refine last_one hback ht hotl (fuel + 1) listed a w hsz (fun i hi => ⟨fun h2 => ?_, fun h2 => ?_⟩) ?_ hcl hE2.1 hE2.2
      · rcases Nat.lt_or_ge i p.tl with h3 | h3
        · rw [hll i h3] at h2; cases h2
        · exact h3
      · rcases Nat.lt_or_ge p.tl i with h3 | h3
        · exact uns i hi h3
        · obtain rfl : i = p.tl := by omega
          exact htlu
      · have hsub : List.range' p.tl (ops.size - p.tl) ⊆ p.tl :: post := by
          intro i hi
          rw [List.mem_range'_1] at hi
          refine (hl i).2 ⟨by omega, ?_⟩
          rcases Nat.lt_or_ge p.tl i with h3 | h3
          · exact uns i (by omega) h3
          · obtain rfl : i = p.tl := by omega
            exact htlu
        have := (List.nodup_range' (s := p.tl) (n := ops.size - p.tl)).length_le_of_subset hsub
        rw [List.length_range'] at this
        simp at hlen this ⊢
        omega
    by_cases hhead2 : ∃ post, l = jf :: p.tl :: post
    · obtain ⟨post, rfl⟩ := hhead2
      have hju := ((hl jf).1 (by simp)).2
      have hll : ∀ i, i < p.tl → i ≠ jf → listed.getD i false = true := fun i hi hne => by
        cases hx : listed.getD i false with
        | true => rfl
        | false =>
          have := (hl i).2 ⟨by omega, hx⟩
          rcases List.mem_cons.1 this with h3 | h3
          · exact absurd h3 hne
          · rcases List.mem_cons.1 h3 with h3 | h3
            · omega
            · have := (List.pairwise_cons.1 (List.pairwise_cons.1 hsort).2).1 i h3
              omega
      have hst : Step P ops p jf (wpR P ops p (fun a w => Q .normal a w) (p.tl :: post)) vs S Γ a := by
        have h9 := h
        simp only [wpR, if_neg (show ¬ jf = p.tl by omega)] at h9
        simpa only [wpR, if_true] using h9
      rw [Step.plain hoj (hjw a) hjm hjn] at hst
      obtain ⟨f, h1, h2⟩ := hst
      simp only [wpR, if_true] at h2
      have hE2 := hE _ _ (h2 w hC hS hΓ)
      have hrf := h1 w ⟨hC, fun i _ => hΓ i⟩
      have hap : reach ops d jf p.tl = true ∨ (oj.apart ops otl = true ∧ otl.apart ops oj = true) := by
        have h3 := (List.all_eq_true.1 ((List.all_eq_true.1 hpair) p.tl (List.mem_range.2 htls))) jf (List.mem_range.2 hjt)
        rw [Bool.or_eq_true] at h3
        rcases h3 with h3 | h3
        · exact .inl h3
        · rw [hoj, hotl] at h3
          simp only [Bool.and_eq_true] at h3
          exact .inr ⟨h3.1.1, h3.1.2⟩
      refine last_two (f := f) hs hback ht hjt hoj hotl hap (fuel + 1) listed a w hsz (fun i hi => ⟨fun h3 => ?_, fun h3 => ?_⟩) ?_ hcl (hjw a) (fun w2 => hjr a f w w2 hrf) hE2.1 hE2.2
      · rcases Nat.lt_or_ge i p.tl with h4 | h4
        · by_cases e : i = jf
          · exact .inr e
          · rw [hll i h4 e] at h3; cases h3
        · exact .inl h4
      · rcases h3 with h3 | rfl
        · rcases Nat.lt_or_ge p.tl i with h4 | h4
          · exact uns i hi h4
          · obtain rfl : i = p.tl := by omega
            exact htlu
        · exact hju
      · have hsub : List.range' p.tl (ops.size - p.tl) ⊆ p.tl :: post := by
          intro i hi
          rw [List.mem_range'_1] at hi
          have hiu : listed.getD i false = false := by
            rcases Nat.lt_or_ge p.tl i with h3 | h3
            · exact uns i (by omega) h3
            · obtain rfl : i = p.tl := by omega
              exact htlu
          rcases List.mem_cons.1 ((hl i).2 ⟨by omega, hiu⟩) with h4 | h4
          · omega
          · exact h4
        have := (List.nodup_range' (s := p.tl) (n := ops.size - p.tl)).length_le_of_subset hsub
        rw [List.length_range'] at this
        simp at hlen this ⊢
        omega
    refine ⟨fun hr => ?_, fun i hi => ?_⟩
    · have hl0 := readyNil hsz hl hsort hr
      subst hl0
      exact h w hC hS hΓ
    · rw [mem_ready] at hi
      obtain ⟨h0, oi, hoi, hall⟩ := hi
      have hlt := (Array.getElem?_eq_some_iff.1 hoi).1
      rw [trueOf hsz hlt] at h0
      have him : i ∈ l := (hl i).2 ⟨hlt, h0⟩
      obtain ⟨pre, post, rfl, hpre, hsort2, hmem2⟩ := range_filter_split hsort him
      have hit : i < p.tl := by
        rcases Nat.lt_or_ge i p.tl with h1 | h1
        · exact h1
        · exfalso
          have hi2 : i = p.tl := by
            rcases Nat.lt_or_ge p.tl i with h2 | h2
            · have := reached i p.tl oi hoi hall (forced i p.tl hlt h2 h2)
              rw [htlu] at this; cases this
            · omega
          subst hi2
          have hpj : ∀ k ∈ pre, k = jf := fun k hk => by
            by_cases e : k = jf
            · exact e
            · have h3 := reached p.tl k oi hoi hall (forced0 k (hpre k hk) e)
              rw [((hl k).1 (by simp [hk])).2] at h3; cases h3
          cases pre with
          | nil => exact hhead ⟨post, rfl⟩
          | cons k pre =>
            obtain rfl := hpj k (by simp)
            cases pre with
            | nil => exact hhead2 ⟨post, rfl⟩
            | cons k2 pre =>
              have e2 := hpj k2 (by simp)
              have := (List.pairwise_cons.1 hsort).1 k2 (by simp)
              omega
      have hcond : ∀ k ∈ pre, i ≠ k ∧ k ≠ p.tl ∧ ∃ ok, ops[k]? = some ok ∧ ok.apart ops oi = true ∧ oi.apart ops ok = true ∧ ¬ (p.majs.contains k = true ∧ p.majs.contains i = true) := by
        intro k hk
        have hki := hpre k hk
        have hkl := (hl k).1 (by simp [hk])
        refine ⟨by omega, by omega, ops[k], Array.getElem?_eq_getElem hkl.1, ?_⟩
        have h1 := (List.all_eq_true.1 ((List.all_eq_true.1 hpair) i (List.mem_range.2 hlt))) k (List.mem_range.2 hki)
        rw [Bool.or_eq_true] at h1
        rcases h1 with h1 | h1
        · exfalso
          cases d with
          | zero => simp [reach] at h1
          | succ d =>
            unfold reach at h1
            rw [hoi] at h1
            simp only at h1
            obtain ⟨e, he, hb⟩ := Array.any_eq_true'.1 h1
            simp only [Bool.and_eq_true, Bool.or_eq_true, beq_iff_eq] at hb
            have h2 := hall e he hb.1
            rcases hb.2 with h3 | h3
            · rw [h3, hkl.2] at h2; cases h2
            · have := reach_listed hcl d k e.on h2 h3
              rw [hkl.2] at this; cases this
        · rw [Array.getElem?_eq_getElem hkl.1, hoi] at h1
          simp only [Bool.and_eq_true, Bool.not_eq_true', Bool.and_eq_false_iff] at h1
          refine ⟨h1.1.1, h1.1.2, fun ⟨h2, h3⟩ => ?_⟩
          rcases h1.2 with h4 | h4
          · rw [h2] at h4; cases h4
          · rw [h3] at h4; cases h4
      have hkn : Known ops p oi Γ w := ⟨hC, fun j _ => hΓ j⟩
      have hst := wpR_front hoi hs pre vs S Γ a hcond (by omega) hkn h
      have htm2 : p.tl < ops.size → p.tl ∈ pre ++ post := fun h1 => (hmem2 p.tl).2 ⟨htm h1, by omega⟩
      have hsz2 : (listed.setIfInBounds i true).size = ops.size := by simpa using hsz
      have hl2 : ∀ j, j ∈ pre ++ post ↔ j < ops.size ∧ (listed.setIfInBounds i true).getD j false = false := by
        intro j
        rw [hmem2, hl, list_set (by omega)]
        by_cases hji : j = i
        · simp [hji]
        · simp [hji]
      have hlen2 : (pre ++ post).length ≤ fuel := by simp at hlen ⊢; omega
      have hcl2 : ∀ (j : Nat) (o : Oper), ops[j]? = some o → (listed.setIfInBounds i true).getD j false = true → ∀ e ∈ o.after, Region.binds .any e = true → (listed.setIfInBounds i true).getD e.on false = true := by
        intro j o ho hj e he hb
        rw [list_set (by omega)]
        split
        · rfl
        · rw [list_set (by omega)] at hj
          split at hj
          · rename_i hji
            subst hji
            rw [hoi] at ho
            injection ho with ho
            subst ho
            exact hall e he hb
          · exact hcl j o ho hj e he hb
      unfold wpOp
      rw [hoi]
      simp only
      cases hw : Region.wanted oi (yielded ops a.tmps) with
      | false =>
        rw [Step.pass hoi hw] at hst
        simp only [Bool.false_eq_true, if_false]
        exact ih _ _ vs S Γ _ w hsz2 hl2 hsort2 hlen2 hcl2 htm2 hC hS hSa hΓ hΓs hst
      | true =>
        simp only [if_true]
        left
        unfold Oper.wp
        cases hm : p.majs.contains i with
        | true =>
          rw [Step.major hoi hw hm] at hst
          obtain ⟨⟨_, hkeep, hpost, hrun⟩, hgo⟩ := hst
          have h1 := hrun w hkn hS
          have go : ∀ v w2, (p.shape i vs v ∧ Chg p.T w w2 ∧ p.post i vs v w2 ∧ p.keep i vs v w2) → wpAny P .any ops Q fuel (listed.setIfInBounds i true) (a.put oi.dst v) w2 := by
            rintro v w2 ⟨e1, e2, e3, e4⟩
            refine ih _ _ _ _ _ _ w2 hsz2 hl2 hsort2 hlen2 hcl2 htm2 (hC.trans2 e2 fun b hb => .inl hb) e3 (hpost v) (fun j => ?_) (fun j => ?_) (hgo v e1)
            · by_cases hj : j = i
              · subst hj; rw [Facts.set_self]; exact e4
              · rw [Facts.set_other hj]; exact hΓs j w w2 hC e2 (hΓ j)
            · by_cases hj : j = i
              · subst hj; rw [Facts.set_self]; exact hkeep v
              · rw [Facts.set_other hj]; exact hΓs j
          generalize (execOp a.eval oi).run P w = r at h1
          cases r with
          | halt x w2 => exact h1.elim
          | ok n w2 =>
            cases n with
            | value u => exact go u w2 h1
            | skip => exact go undef w2 h1
            | enter f args =>
              refine Calls.mono h1 ?_
              rintro e w3 ⟨v, rfl, h2⟩
              exact go v w3 h2
            | _ => exact h1.elim
        | false =>
          cases hn : p.mins.contains i with
          | true =>
            rw [Step.minor hoi hw hm hn] at hst
            obtain ⟨ob, kd, h1, h2⟩ := hst
            rw [h1 w hkn]
            have e2 : Chg p.T w (w.alloc ob) := (Chg.refl _ w).alloc ob
            refine ih _ _ _ _ _ _ (w.alloc ob) hsz2 hl2 hsort2 hlen2 hcl2 htm2 (hC.alloc ob) (hSa w ob hS) hSa (fun j => ?_) (fun j => ?_) (h2 w.heap.size)
            · by_cases hj : j = i
              · subst hj; rw [Facts.set_self]; exact ⟨hC.size, heap_alloc_new w ob⟩
              · rw [Facts.set_other hj]; exact hΓs j w _ hC e2 (hΓ j)
            · by_cases hj : j = i
              · subst hj
                rw [Facts.set_self]
                rintro w1 w2 _ e4 ⟨e5, e6⟩
                refine ⟨e5, (e4.block _ (Array.getElem?_eq_some_iff.1 e6).1 fun hTg => ?_).trans e6⟩
                have := hT _ hTg
                omega
              · rw [Facts.set_other hj]; exact hΓs j
          | false =>
            rw [Step.plain hoi hw hm hn] at hst
            obtain ⟨f, h1, h2⟩ := hst
            rw [h1 w hkn]
            exact ih _ _ vs S Γ _ w hsz2 hl2 hsort2 hlen2 hcl2 htm2 hC hS hSa hΓ hΓs h2

theorem wp_region_RF (d jf : Nat) {oj otl : Oper} {id : Nat} {Q : Exit → Act → World → Prop} {a : Act} {w : World} (hm : P.follows .mixedOrders = true) (hok : okB ops p.majs d = true) (ht : tailB ops (p.tl + 1) d = true) (ht0 : lastB ops p.tl jf d = true) (hjt : jf < p.tl) (hoj : ops[jf]? = some oj) (hotl : ops[p.tl]? = some otl) (hjm : p.majs.contains jf = false) (hjn : p.mins.contains jf = false)
    (hjw : ∀ a : Act, Region.wanted oj (yielded ops a.tmps) = true) (hjr : ∀ (a : Act) (f : Value) (w w2 : World), (execOp a.eval oj).run P w = .ok (.value f) w → (execOp a.eval oj).run P w2 = .ok (.value f) w2)
    (hE : ∀ a w, p.E a w → Region.wanted otl (yielded ops a.tmps) = true ∧ ∃ w2, (execOp a.eval otl).run P w = .ok .skip w2 ∧ wpOps P ops Q (List.range' (p.tl + 1) (ops.size - (p.tl + 1))) (a.put otl.dst undef) w2) (hw : p.w0 = w) (hT : ∀ b, p.T b → b < w.heap.size)
    (S : World → Prop) (hS : S w.drew) (hSa : ∀ w ob, S w → S (w.alloc ob))
    (h : wpR P ops p (fun a w => Q .normal a w) (List.range ops.size) [] S (fun _ _ => True) a) : (Code.region id ops true).wp P Q a w := by
  subst hw
  refine wp_region_any hm (wpAny_of_RF hok ht ht0 hjt hoj hotl hjm hjn hjw hjr hE hT _ _ (List.range ops.size) [] S _ a _ (by simp) (fun j => ?_) List.pairwise_lt_range (by simp) ?_ (fun h1 => List.mem_range.2 h1) ((Chg.refl _ _).drew) hS hSa (fun _ => trivial) (fun _ _ _ _ _ _ => trivial) h)
  · rw [List.mem_range]
    by_cases hj : j < ops.size <;> simp [hj]
  · intro j o ho hj
    have := (Array.getElem?_eq_some_iff.1 ho).1
    simp [this] at hj

theorem extract_same {P : Program} {o : Oper} {t : Operand} {ix : Nat} (ho : o.op = .extract t ix) (a : Act) (f : Value) (w w2 : World) (h : (execOp a.eval o).run P w = .ok (.value f) w) : (execOp a.eval o).run P w2 = .ok (.value f) w2 := by
  unfold execOp at h ⊢
  rw [ho] at h ⊢
  simp only [Instr.extract] at h ⊢
  cases hv : a.eval t with
  | tuple vs =>
    rw [hv] at h
    simp only at h ⊢
    cases hx : vs[ix]? with
    | none => rw [hx] at h; simp [go_sem] at h
    | some v => rw [hx] at h; simpa [go_sem] using h
  | _ => rw [hv] at h; simp [go_sem] at h

/-- A region at whose end 'tl' stores (an operation that leaves no value), of which 'jf' (a part taken out of what a call handed over) may stand on either side. -/
theorem st_region_last (d tl jf : Nat) (T : Nat → Prop) (majs mins : List Nat) (post keep : Nat → List Value → Value → World → Prop) (shape : Nat → List Value → Value → Prop) (S : World → Prop) {L : List Oper} {w : World} {id : Nat} {Q : Exit → Act → World → Prop} {a : Act} {oj otl : Oper} {tj : Operand} {ix : Nat}
    (hm : P.follows .mixedOrders = true) (hok : okB L.toArray majs d = true) (ht : tailB L.toArray (tl + 1) d = true) (ht0 : lastB L.toArray tl jf d = true) (hjt : jf < tl) (hoj : L[jf]? = some oj) (hotl : L[tl]? = some otl) (hjm : majs.contains jf = false) (hjn : mins.contains jf = false) (hjg : oj.guard = none) (hjx : oj.op = .extract tj ix) (htg : otl.guard = none)
    (hT : ∀ b, T b → b < w.heap.size) (hS : S w.drew) (hSa : ∀ w ob, S w → S (w.alloc ob))
    (h : wpX P L.toArray { T := T, w0 := w, majs := majs, mins := mins, post := post, keep := keep, shape := shape, tl := tl, E := fun a w => ∃ w2, (execOp a.eval otl).run P w = .ok .skip w2 ∧ wpList P L.toArray Q (L.drop (tl + 1)) (a.put otl.dst undef) w2 } (fun a w => Q .normal a w) 0 L [] S (fun _ _ => True) a) : (Code.region id L.toArray true).wp P Q a w := by
  refine wp_region_RF (p := { T := T, w0 := w, majs := majs, mins := mins, post := post, keep := keep, shape := shape, tl := tl, E := fun a w => ∃ w2, (execOp a.eval otl).run P w = .ok .skip w2 ∧ wpList P L.toArray Q (L.drop (tl + 1)) (a.put otl.dst undef) w2 }) (oj := oj) (otl := otl) d jf hm hok ht ht0 hjt (by simpa using hoj) (by simpa using hotl) hjm hjn (fun a => by unfold Region.wanted; rw [hjg]) (fun a f w w2 h => extract_same hjx a f w w2 h) (fun a w h => ⟨by unfold Region.wanted; rw [htg], ?_⟩) rfl hT S hS hSa ?_
  · obtain ⟨w2, h1, h2⟩ := h
    refine ⟨w2, h1, ?_⟩
    have e := wpOps_eq_wpList (P := P) (ops := L.toArray) (Q := Q) (L.drop (tl + 1)) (tl + 1) (fun j => by simp)
    rw [List.length_drop] at e
    rw [List.size_toArray, e]
    exact h2
  · have := wpR_of_X L 0 [] S (fun _ _ => True) a (by simp) h
    rw [List.range_eq_range']
    simpa using this

theorem there_blk {w : World} {g : Nat} {t : TypeId} {cs : Array Value} (h : Blk w g t cs) {n : Nat} (hn : n ≤ cs.size) : w.there g 0 n := fun j hj => by
  rw [Nat.zero_add, h.cell, h.frozen]
  simp [show j < cs.size by omega]
/-- A whole struct is stored into a block of one's own. -/
theorem exec_store {P : Program} {o : Oper} {a : Act} {w : World} {ty : TypeId} (x y : Operand) (ho : o.op = .store ty x y) {g : Nat} {cs old : Array Value} {t : TypeId} (hx : a.eval x = .pointer (some ⟨g, 0, none⟩)) (hy : a.eval y = .agg cs) (hb : Blk w g t old) (hsz : cs.size = old.size)
    (hi : (P.info? ty).map (·.size) = some cs.size) (h1 : cs.all (·.oneCell') = true) : (execOp a.eval o).run P w = .ok .skip (w.setCells g 0 cs.toList) := by
  unfold execOp
  simp only [ho, hx, hy, Instr.storeAt, Instr.sureAddr, Sem.run_bind, Sem.run_pure, Result.andThen_ok, run_storeVar_mid w g 0 ty cs (there_blk hb (by omega)) hi h1]
end

structure WY (P : Program) (ops : Array Oper) (p : Plan) (Q : Act → World → Prop) (k : Nat) (R : List Oper) (vs : List Value) (S : World → Prop) (Γ : Facts) (a : Act) : Prop where
  out : wpX P ops p Q k R vs S Γ a

section
variable {P : Program} {ops : Array Oper} {p : Plan} {Q : Act → World → Prop} {k : Nat} {R : List Oper} {vs : List Value} {S : World → Prop} {Γ : Facts} {a : Act} {o : Oper}
omit P ops p Q k R vs S Γ a in
theorem wanted_none {y : Nat → Option Bool} (h : o.guard = none) : Region.wanted o y = true := by unfold Region.wanted; rw [h]
omit P ops p Q k R vs S Γ in
theorem wanted_yes {L : List Oper} {j d : Nat} {b : Bool} (hg : o.guard = some (j, b)) (hd : (L[j]?).bind (·.dst) = some d) (hv : a.tmps[d]? = some (.bool b)) : Region.wanted o (yielded L.toArray a.tmps) = true := by
  unfold Region.wanted
  rw [hg]
  unfold yielded
  have e : L.toArray[j]? = L[j]? := by simp
  simp only [e, hd, Option.bind_some, hv]
  simp
omit P ops p Q k R vs S Γ in
theorem wanted_no {L : List Oper} {j d : Nat} {b b2 : Bool} (hg : o.guard = some (j, b)) (hd : (L[j]?).bind (·.dst) = some d) (hv : a.tmps[d]? = some (.bool b2)) (hne : (b2 == b) = false) : Region.wanted o (yielded L.toArray a.tmps) = false := by
  unfold Region.wanted
  rw [hg]
  unfold yielded
  have e : L.toArray[j]? = L[j]? := by simp
  simp only [e, hd, Option.bind_some, hv]
  simpa using hne
theorem y_plain (T : Nat → Prop) (w0 : World) (hT : p.T = T) (h0 : p.w0 = w0) {f : Value} {a2 : Act} {k2 : Nat} (hw : Region.wanted o (yielded ops a.tmps) = true) (hm : p.majs.contains k = false) (hn : p.mins.contains k = false)
    (hp : ∀ w, Chg T w0 w → (∀ i, usable ops o i = true → Γ i w) → (execOp a.eval o).run P w = .ok (.value f) w) (ha : a.put o.dst f = a2) (hk : k + 1 = k2)
    (h : WY P ops p Q k2 R vs S Γ a2) (ht : (k == p.tl) = false) : WY P ops p Q k (o :: R) vs S Γ a := by
  subst ha hk
  exact ⟨st_plain T w0 hT h0 hw hm hn hp h.out ht⟩
theorem y_pass {a2 : Act} {k2 : Nat} (hw : Region.wanted o (yielded ops a.tmps) = false) (ha : a.put o.dst undef = a2) (hk : k + 1 = k2) (h : WY P ops p Q k2 R vs S Γ a2) (ht : (k == p.tl) = false) : WY P ops p Q k (o :: R) vs S Γ a := by
  subst ha hk
  exact ⟨st_pass hw h.out ht⟩
theorem y_minor (T : Nat → Prop) (w0 : World) (hT : p.T = T) (h0 : p.w0 = w0) {ob : Obj} {kd : Option (Nat × Nat)} {a2 : Nat → Act} {k2 : Nat} (hw : Region.wanted o (yielded ops a.tmps) = true) (hm : p.majs.contains k = false) (hn : p.mins.contains k = true)
    (hp : ∀ w, Chg T w0 w → (∀ i, usable ops o i = true → Γ i w) → (execOp a.eval o).run P w = .ok (.value (mkv kd w.heap.size)) (w.alloc ob)) (ha : ∀ g, a.put o.dst (mkv kd g) = a2 g) (hk : k + 1 = k2)
    (h : ∀ g, WY P ops p Q k2 R vs S (Γ.set k (fun w => w0.heap.size ≤ g ∧ w.heap[g]? = some ob)) (a2 g)) (ht : (k == p.tl) = false) : WY P ops p Q k (o :: R) vs S Γ a := by
  subst hk
  exact ⟨st_minor T w0 hT h0 hw hm hn hp (fun g => (ha g) ▸ (h g).out) ht⟩
theorem y_major (T : Nat → Prop) (w0 : World) (hT : p.T = T) (h0 : p.w0 = w0) {a2 : Value → Act} {k2 : Nat} (hw : Region.wanted o (yielded ops a.tmps) = true) (hm : p.majs.contains k = true)
    (hsh : ∃ v, p.shape k vs v) (hkeep : ∀ v w w2, Chg T w0 w → Chg T w w2 → p.keep k vs v w → p.keep k vs v w2) (hpost : ∀ v w ob, p.post k vs v w → p.post k vs v (w.alloc ob))
    (hp : ∀ w, Chg T w0 w → (∀ i, usable ops o i = true → Γ i w) → S w → settle P (fun v w2 => p.shape k vs v ∧ Chg T w w2 ∧ p.post k vs v w2 ∧ p.keep k vs v w2) ((execOp a.eval o).run P w)) (ha : ∀ v, a.put o.dst v = a2 v) (hk : k + 1 = k2)
    (h : ∀ v, p.shape k vs v → WY P ops p Q k2 R (vs ++ [v]) (p.post k vs v) (Γ.set k (p.keep k vs v)) (a2 v)) (ht : (k == p.tl) = false) : WY P ops p Q k (o :: R) vs S Γ a := by
  subst hk
  exact ⟨st_major T w0 hT h0 hw hm hsh hkeep hpost hp (fun v hv => (ha v) ▸ (h v hv).out) ht⟩
theorem y_end (T : Nat → Prop) (w0 : World) (hT : p.T = T) (h0 : p.w0 = w0) (h : ∀ w, Chg T w0 w → S w → (∀ i, Γ i w) → Q a w) : WY P ops p Q k [] vs S Γ a := ⟨st_end T w0 hT h0 h⟩
theorem y_tail (T : Nat → Prop) (w0 : World) (hT : p.T = T) (h0 : p.w0 = w0) (ht : p.tl = k) (h : ∀ w, Chg T w0 w → S w → (∀ i, Γ i w) → p.E a w) : WY P ops p Q k (o :: R) vs S Γ a := ⟨st_tail T w0 hT h0 ht h⟩
/-- At the region. -/
theorem y_region (d : Nat) (T : Nat → Prop) (majs mins : List Nat) (post keep : Nat → List Value → Value → World → Prop) (shape : Nat → List Value → Value → Prop) (S : World → Prop) {L : List Oper} {w : World} {id : Nat} {Q : Exit → Act → World → Prop}
    (hm : P.follows .mixedOrders = true) (hok : okB L.toArray majs d = true)
    (hT : ∀ b, T b → b < w.heap.size) (hS : S w.drew) (hSa : ∀ w ob, S w → S (w.alloc ob))
    (h : WY P L.toArray { T := T, w0 := w, majs := majs, mins := mins, post := post, keep := keep, shape := shape, tl := 9999, E := fun _ _ => False } (fun a w => Q .normal a w) 0 L [] S (fun _ _ => True) a) (hl : Nat.ble L.length 9999 = true := by rfl) : (Code.region id L.toArray true).wp P Q a w :=
  st_region d T majs mins post keep shape S hm hok hT hS hSa h.out hl
theorem y_region_tail (d tl : Nat) (T : Nat → Prop) (majs mins : List Nat) (post keep : Nat → List Value → Value → World → Prop) (shape : Nat → List Value → Value → Prop) (S : World → Prop) {L : List Oper} {w : World} {id : Nat} {Q : Exit → Act → World → Prop}
    (hm : P.follows .mixedOrders = true) (hok : okB L.toArray majs d = true) (ht : tailB L.toArray tl d = true)
    (hT : ∀ b, T b → b < w.heap.size) (hS : S w.drew) (hSa : ∀ w ob, S w → S (w.alloc ob))
    (h : WY P L.toArray { T := T, w0 := w, majs := majs, mins := mins, post := post, keep := keep, shape := shape, tl := tl, E := wpList P L.toArray Q (L.drop tl) } (fun a w => Q .normal a w) 0 L [] S (fun _ _ => True) a) : (Code.region id L.toArray true).wp P Q a w :=
  st_region_tail d tl T majs mins post keep shape S hm hok ht hT hS hSa h.out
end

/-- Seven cells written, one behind the other. -/
def set7 (w : World) (g : Nat) (u0 u1 u2 u3 u4 u5 u6 : Value) : World :=
  ((((((w.setCell ⟨g, 0, none⟩ u0).setCell ⟨g, 1, none⟩ u1).setCell ⟨g, 2, none⟩ u2).setCell ⟨g, 3, none⟩ u3).setCell ⟨g, 4, none⟩ u4).setCell ⟨g, 5, none⟩ u5).setCell ⟨g, 6, none⟩ u6
theorem set7_chg (w : World) (g : Nat) (u0 u1 u2 u3 u4 u5 u6 : Value) : Chg (fun b => b = g) w (set7 w g u0 u1 u2 u3 u4 u5 u6) := by
  have hc6 : ∀ (i : Nat) (u : Value) (wx : World), Chg (fun b => b = g) w wx → Chg (fun b => b = g) w (wx.setCell ⟨g, i, none⟩ u) := fun i u wx h => h.set1 i u
  unfold set7
  exact hc6 _ _ _ (hc6 _ _ _ (hc6 _ _ _ (hc6 _ _ _ (hc6 _ _ _ (hc6 _ _ _ (hc6 _ _ _ (Chg.refl _ _)))))))
theorem set7_blk {w : World} {g : Nat} {t : TypeId} {a0 a1 a2 a3 a4 a5 a6 : Value} (h : Blk w g t #[a0, a1, a2, a3, a4, a5, a6]) (u0 u1 u2 u3 u4 u5 u6 : Value) : Blk (set7 w g u0 u1 u2 u3 u4 u5 u6) g t #[u0, u1, u2, u3, u4, u5, u6] := by
  have h := ((((((h.put 0 u0).put 1 u1).put 2 u2).put 3 u3).put 4 u4).put 5 u5).put 6 u6
  simp only [List.setIfInBounds_toArray, List.set_cons_succ, List.set_cons_zero] at h
  exact h
theorem cell7 {w : World} {g : Nat} {t : TypeId} {a0 a1 a2 a3 a4 a5 a6 : Value} (h : Blk w g t #[a0, a1, a2, a3, a4, a5, a6]) :
    w.cell? ⟨g, 0, none⟩ = some a0 ∧ w.cell? ⟨g, 1, none⟩ = some a1 ∧ w.cell? ⟨g, 2, none⟩ = some a2 ∧ w.cell? ⟨g, 3, none⟩ = some a3 ∧ w.cell? ⟨g, 4, none⟩ = some a4 ∧ w.cell? ⟨g, 5, none⟩ = some a5 ∧ w.cell? ⟨g, 6, none⟩ = some a6 :=
  ⟨h.cell 0, h.cell 1, h.cell 2, h.cell 3, h.cell 4, h.cell 5, h.cell 6⟩
theorem set7_name (w : World) (g : Nat) (u0 u1 u2 u3 u4 u5 u6 : Value) : ((((((w.setCell ⟨g, 0, none⟩ u0).setCell ⟨g, 1, none⟩ u1).setCell ⟨g, 2, none⟩ u2).setCell ⟨g, 3, none⟩ u3).setCell ⟨g, 4, none⟩ u4).setCell ⟨g, 5, none⟩ u5).setCell ⟨g, 6, none⟩ u6 = set7 w g u0 u1 u2 u3 u4 u5 u6 := rfl
theorem putAll_whole {old : Array Value} {cs : List Value} (hs : cs.length = old.size) : putAll old 0 cs = cs.toArray := by
  apply Array.ext_getElem?
  intro i
  by_cases hi : i < cs.length
  · have := putAll_in cs old 0 i hi (by omega)
    rw [Nat.zero_add] at this
    rw [this]
    simp
  · rw [Array.getElem?_eq_none (by rw [putAll_size]; omega), Array.getElem?_eq_none (by simp; omega)]
/-- A whole struct is stored. -/
theorem settle_store {P : Program} {Kp : Value → World → Prop} {o : Oper} {a : Act} {w : World} {ty : TypeId} (x y : Operand) (ho : o.op = .store ty x y) {g : Nat} {cs old : Array Value} {t : TypeId} (hx : a.eval x = .pointer (some ⟨g, 0, none⟩)) (hy : a.eval y = .agg cs) (hb : Blk w g t old) (hsz : cs.size = old.size)
    (hi : (P.info? ty).map (·.size) = some cs.size) (h1 : cs.all (·.oneCell') = true) (h : ∀ w2, Blk w2 g t cs → Chg (fun b => b = g) w w2 → Kp undef w2) : settle P Kp ((execOp a.eval o).run P w) := by
  rw [exec_store x y ho hx hy hb hsz hi h1]
  refine h _ ?_ (Chg.sets (S := fun b => b = g) (.inl rfl) cs.toList 0 w (Chg.refl _ _))
  have := hb.puts cs.toList 0 _ _
  rw [putAll_whole (by simpa using hsz)] at this
  simpa using this
theorem wpList_store_all {P : Program} {ops : Array Oper} {rest : List Oper} {o : Oper} {a : Act} {Q : Exit → Act → World → Prop} {w : World} {ty : TypeId} (hgd : o.guard = none) (x y : Operand) (ho : o.op = .store ty x y) {g : Nat} {cs old : Array Value} {t : TypeId} (hx : a.eval x = .pointer (some ⟨g, 0, none⟩)) (hy : a.eval y = .agg cs) (hb : Blk w g t old) (hsz : cs.size = old.size)
    (hi : (P.info? ty).map (·.size) = some cs.size) (h1 : cs.all (·.oneCell') = true) (h : ∀ w2, Blk w2 g t cs → Chg (fun b => b = g) w w2 → wpList P ops Q rest (a.put o.dst undef) w2) : wpList P ops Q (o :: rest) a w := by
  refine wpList_plain hgd fun K' hK' => ?_
  unfold Oper.wp
  rw [exec_store x y ho hx hy hb hsz hi h1]
  refine hK' _ _ (h _ ?_ (Chg.sets (S := fun b => b = g) (.inl rfl) cs.toList 0 w (Chg.refl _ _)))
  have := hb.puts cs.toList 0 _ _
  rw [putAll_whole (by simpa using hsz)] at this
  simpa using this
end Go.Proofs.Yteinbdifncdaiaa
