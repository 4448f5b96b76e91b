/-
  Regions that draw their order, once more: cells that stay as they are though their block may change.
-/
import Derived.Test.YtogmnhneobdklaaSteps
namespace Go.Proofs.Ytogmnhneobdklaa
open Go.RowKit

/-- From w to w2 only the blocks of T may have changed, and the cells of N read as before. -/
def CK (T : Nat → Prop) (N : Addr → Prop) (w w2 : World) : Prop := Chg T w w2 ∧ ∀ a v, N a → w.cell? a = some v → w2.cell? a = some v
theorem CK.refl (T : Nat → Prop) (N : Addr → Prop) (w : World) : CK T N w w := ⟨Chg.refl _ _, fun _ _ _ h => h⟩
theorem CK.trans {T : Nat → Prop} {N : Addr → Prop} {w w1 w2 : World} (h : CK T N w w1) (k : CK T N w1 w2) : CK T N w w2 := ⟨h.1.trans k.1, fun a v hn hc => k.2 a v hn (h.2 a v hn hc)⟩
theorem CK.alloc {T : Nat → Prop} {N : Addr → Prop} {w w1 : World} (h : CK T N w w1) (o : Obj) : CK T N w (w1.alloc o) := ⟨h.1.alloc o, fun a v hn hc => ((Chg.refl Non w1).alloc o).cell (h.2 a v hn hc) id⟩
theorem CK.drew {T : Nat → Prop} {N : Addr → Prop} {w w1 : World} (h : CK T N w w1) : CK T N w w1.drew := ⟨h.1.drew, fun a v hn hc => h.2 a v hn hc⟩

/-- What is said of a region ahead of its walk: which old blocks may change, the world at its beginning, which operations change the world, which make a block, and what each of the first leaves: 'post' till the next of them, 'keep' for good, 'shape' of the value alone. -/
structure PlanK where
  T : Nat → Prop
  w0 : World
  majs : List Nat
  mins : List Nat
  post : Nat → List Value → Value → World → Prop
  keep : Nat → List Value → Value → World → Prop
  shape : Nat → List Value → Value → Prop
  tl : Nat
  E : Act → World → Prop
  N : Addr → Prop








section
variable (P : Program) (ops : Array Oper) (p : PlanK)

def KnownK (o : Oper) (Γ : Facts) (w : World) : Prop := CK p.T p.N p.w0 w ∧ ∀ i, usable ops o i = true → Γ i w
def PureAtK (o : Oper) (a : Act) (Γ : Facts) (f : Value) : Prop := ∀ w, KnownK ops p o Γ w → (execOp a.eval o).run P w = .ok (.value f) w
def MinAtK (o : Oper) (a : Act) (Γ : Facts) (ob : Obj) (kd : Option (Nat × Nat)) : Prop := ∀ w, KnownK ops p o Γ w → (execOp a.eval o).run P w = .ok (.value (mkv kd w.heap.size)) (w.alloc ob)
def StableK (F : World → Prop) : Prop := ∀ w w2, CK p.T p.N p.w0 w → CK p.T p.N w w2 → F w → F w2
def MajAtK (k : Nat) (o : Oper) (vs : List Value) (S : World → Prop) (a : Act) (Γ : Facts) : Prop :=
  (∃ v, p.shape k vs v) ∧ (∀ v, StableK p (p.keep k vs v)) ∧ (∀ v w ob, p.post k vs v w → p.post k vs v (w.alloc ob)) ∧
  ∀ w, KnownK ops p o Γ w → S w → settle P (fun v w2 => p.shape k vs v ∧ CK p.T p.N w w2 ∧ p.post k vs v w2 ∧ p.keep k vs v w2) ((execOp a.eval o).run P w)
def LaidK (g : Nat) (ob : Obj) (w : World) : Prop := p.w0.heap.size ≤ g ∧ w.heap[g]? = some ob

def StepK (k : Nat) (K : List Value → (World → Prop) → Facts → Act → Prop) (vs : List Value) (S : World → Prop) (Γ : Facts) (a : Act) : Prop :=
  match ops[k]? with
  | none => False
  | some o =>
    if Region.wanted o (yielded ops a.tmps) = true then
      if p.majs.contains k then MajAtK P ops p k o vs S a Γ ∧ ∀ v, p.shape k vs v → K (vs ++ [v]) (p.post k vs v) (Γ.set k (p.keep k vs v)) (a.put o.dst v)
      else if p.mins.contains k then ∃ ob kd, MinAtK P ops p o a Γ ob kd ∧ ∀ g, K vs S (Γ.set k (LaidK p g ob)) (a.put o.dst (mkv kd g))
      else ∃ f, PureAtK P ops p o a Γ f ∧ K vs S Γ (a.put o.dst f)
    else K vs S Γ (a.put o.dst undef)

/-- The walk of the operations that are left, in the order of the text. -/
def wpRK (Q : Act → World → Prop) : List Nat → List Value → (World → Prop) → Facts → Act → Prop
  | [], _, S, Γ, a => ∀ w, CK p.T p.N p.w0 w → S w → (∀ i, Γ i w) → Q a w
  | k :: l, vs, S, Γ, a => if k = p.tl then (∀ w, CK p.T p.N p.w0 w → S w → (∀ i, Γ i w) → p.E a w) else StepK P ops p k (wpRK Q l) vs S Γ a






end

section
variable {P : Program} {ops : Array Oper} {p : PlanK}

theorem usable_apartK {x y : Oper} {k : Nat} (hk : ops[k]? = some x) (h : x.apart ops y = true) : usable ops y k = false := by
  unfold usable
  rw [hk]
  cases hd : x.dst with
  | none => simp only [hd]
  | some d =>
    have := (Oper.apart_spec h).1 d hd
    simp only [hd]
    simpa using this
theorem KnownK.set {x y : Oper} {k : Nat} {Γ : Facts} {w : World} {F : World → Prop} (hk : ops[k]? = some x) (h : x.apart ops y = true) : KnownK ops p y (Γ.set k F) w ↔ KnownK ops p y Γ w := by
  unfold KnownK
  refine and_congr_right fun _ => forall_congr' fun i => ?_
  by_cases hi : i = k
  · subst hi
    rw [usable_apartK hk h]; simp
  · rw [Facts.set_other hi]

theorem StepK.mono {k : Nat} {K K2 : List Value → (World → Prop) → Facts → Act → Prop} {vs : List Value} {S : World → Prop} {Γ : Facts} {a : Act} (hK : ∀ vs S Γ2 a, (Γ2 = Γ ∨ ∃ F, Γ2 = Γ.set k F) → K vs S Γ2 a → K2 vs S Γ2 a) (h : StepK P ops p k K vs S Γ a) : StepK P ops p k K2 vs S Γ a := by
  unfold StepK at *
  split at h
  · exact h
  · split at h
    · split at h
      · rename_i hw hm
        simp only [hw, hm, if_true]
        exact ⟨h.1, fun v hv => hK _ _ _ _ (.inr ⟨_, rfl⟩) (h.2 v hv)⟩
      · split at h
        · rename_i hw hm hn
          simp only [hw, if_true, hn, if_neg hm]
          obtain ⟨ob, kd, h1, h2⟩ := h
          exact ⟨ob, kd, h1, fun g => hK _ _ _ _ (.inr ⟨_, rfl⟩) (h2 g)⟩
        · rename_i hw hm hn
          simp only [hw, if_true, if_neg hm, if_neg hn]
          obtain ⟨f, h1, h2⟩ := h
          exact ⟨f, h1, hK _ _ _ _ (.inl rfl) h2⟩
    · rename_i hw
      rw [if_neg hw]
      exact hK _ _ _ _ (.inl rfl) h

/-- The four ways of an operation, told apart. -/
theorem StepK.pass {k : Nat} {o : Oper} {K : List Value → (World → Prop) → Facts → Act → Prop} {vs : List Value} {S : World → Prop} {Γ : Facts} {a : Act} (ho : ops[k]? = some o) (hw : Region.wanted o (yielded ops a.tmps) = false) :
    StepK P ops p k K vs S Γ a = K vs S Γ (a.put o.dst undef) := by simp [StepK, ho, hw]
theorem StepK.major {k : Nat} {o : Oper} {K : List Value → (World → Prop) → Facts → Act → Prop} {vs : List Value} {S : World → Prop} {Γ : Facts} {a : Act} (ho : ops[k]? = some o) (hw : Region.wanted o (yielded ops a.tmps) = true) (hm : p.majs.contains k = true) :
    StepK P ops p k K vs S Γ a = (MajAtK P ops p k o vs S a Γ ∧ ∀ v, p.shape k vs v → K (vs ++ [v]) (p.post k vs v) (Γ.set k (p.keep k vs v)) (a.put o.dst v)) := by simp only [StepK, ho, hw, hm, if_true]
theorem StepK.minor {k : Nat} {o : Oper} {K : List Value → (World → Prop) → Facts → Act → Prop} {vs : List Value} {S : World → Prop} {Γ : Facts} {a : Act} (ho : ops[k]? = some o) (hw : Region.wanted o (yielded ops a.tmps) = true) (hm : p.majs.contains k = false) (hn : p.mins.contains k = true) :
    StepK P ops p k K vs S Γ a = ∃ ob kd, MinAtK P ops p o a Γ ob kd ∧ ∀ g, K vs S (Γ.set k (LaidK p g ob)) (a.put o.dst (mkv kd g)) := by simp only [StepK, ho, hw, hm, hn, if_true, Bool.false_eq_true, if_false]
theorem StepK.plain {k : Nat} {o : Oper} {K : List Value → (World → Prop) → Facts → Act → Prop} {vs : List Value} {S : World → Prop} {Γ : Facts} {a : Act} (ho : ops[k]? = some o) (hw : Region.wanted o (yielded ops a.tmps) = true) (hm : p.majs.contains k = false) (hn : p.mins.contains k = false) :
    StepK P ops p k K vs S Γ a = ∃ f, PureAtK P ops p o a Γ f ∧ K vs S Γ (a.put o.dst f) := by simp only [StepK, ho, hw, hm, hn, if_true, Bool.false_eq_true, if_false]

theorem mkv_injK {kd kd2 : Option (Nat × Nat)} {g : Nat} (h : mkv kd g = mkv kd2 g) : kd = kd2 := by
  cases kd <;> cases kd2 <;> simp_all [mkv]
  rename_i x y
  obtain ⟨x1, x2⟩ := x
  obtain ⟨y1, y2⟩ := y
  simp_all
theorem alloc_injK {w : World} {ob ob2 : Obj} (h : w.alloc ob = w.alloc ob2) : ob = ob2 := by
  have : (w.alloc ob).heap[w.heap.size]? = (w.alloc ob2).heap[w.heap.size]? := by rw [h]
  rw [heap_alloc_new, heap_alloc_new] at this
  injection this

/-- Two operations that are apart, of which not both change the world, may change places: asked where the world is one in which the second may come up. -/
theorem StepK.swap {i k : Nat} {oi ok : Oper} (hi : ops[i]? = some oi) (hk : ops[k]? = some ok) (hik : i ≠ k) (h1 : ok.apart ops oi = true) (h2 : oi.apart ops ok = true) (hs : Region.noSelect ops = true)
    (hmm : ¬ (p.majs.contains k = true ∧ p.majs.contains i = true)) {K : List Value → (World → Prop) → Facts → Act → Prop} {vs : List Value} {S : World → Prop} {Γ : Facts} {a : Act} {w : World} (hw : KnownK ops p oi Γ w)
    (h : StepK P ops p k (StepK P ops p i K) vs S Γ a) : StepK P ops p i (StepK P ops p k K) vs S Γ a := by
  have hsi := fun cs b => Region.noSelect_spec hs i oi cs b hi
  have hsk := fun cs b => Region.noSelect_spec hs k ok cs b hk
  have ek : ∀ (a : Act) v, execOp (a.put oi.dst v).eval ok = execOp a.eval ok := fun a v => execOp_put (ops := ops) ok hsk a oi.dst v (Oper.apart_spec h2).1
  have ei : ∀ (a : Act) v, execOp (a.put ok.dst v).eval oi = execOp a.eval oi := fun a v => execOp_put (ops := ops) oi hsi a ok.dst v (Oper.apart_spec h1).1
  have wk : ∀ (a : Act) v, Region.wanted ok (yielded ops (a.put oi.dst v).tmps) = Region.wanted ok (yielded ops a.tmps) := fun a v => wanted_put ok a oi.dst v (Oper.apart_spec h2).1
  have wi : ∀ (a : Act) v, Region.wanted oi (yielded ops (a.put ok.dst v).tmps) = Region.wanted oi (yielded ops a.tmps) := fun a v => wanted_put oi a ok.dst v (Oper.apart_spec h1).1
  have pc : ∀ (a : Act) u v, (a.put ok.dst u).put oi.dst v = (a.put oi.dst v).put ok.dst u := fun a u v => Act.put_comm a u v (Oper.apart_spec h1).2.1
  have kI : ∀ {F : World → Prop} {w : World}, KnownK ops p oi (Γ.set k F) w ↔ KnownK ops p oi Γ w := KnownK.set hk h1
  have kK : ∀ {F : World → Prop} {w : World}, KnownK ops p ok (Γ.set i F) w ↔ KnownK ops p ok Γ w := KnownK.set hi h2
  cases hwk : Region.wanted ok (yielded ops a.tmps) with
  | false =>
    rw [StepK.pass hk hwk] at h
    cases hwi : Region.wanted oi (yielded ops a.tmps) with
    | false =>
      rw [StepK.pass hi (by rw [wi]; exact hwi)] at h
      rw [StepK.pass hi hwi, StepK.pass hk (by rw [wk]; exact hwk), ← pc]
      exact h
    | true =>
      cases hm : p.majs.contains i with
      | true =>
        rw [StepK.major hi (by rw [wi]; exact hwi) hm] at h
        rw [StepK.major hi hwi hm]
        refine ⟨?_, fun v hv => ?_⟩
        · unfold MajAtK at *; rw [← ei a undef]; exact h.1
        · rw [StepK.pass hk (by rw [wk]; exact hwk), ← pc]; exact h.2 v hv
      | false =>
        cases hn : p.mins.contains i with
        | true =>
          rw [StepK.minor hi (by rw [wi]; exact hwi) hm hn] at h
          rw [StepK.minor hi hwi hm hn]
          obtain ⟨ob, kd, h3, h4⟩ := h
          refine ⟨ob, kd, ?_, fun g => ?_⟩
          · unfold MinAtK at *; rw [← ei a undef]; exact h3
          · rw [StepK.pass hk (by rw [wk]; exact hwk), ← pc]; exact h4 g
        | false =>
          rw [StepK.plain hi (by rw [wi]; exact hwi) hm hn] at h
          rw [StepK.plain hi hwi hm hn]
          obtain ⟨f, h3, h4⟩ := h
          refine ⟨f, ?_, ?_⟩
          · unfold PureAtK at *; rw [← ei a undef]; exact h3
          · rw [StepK.pass hk (by rw [wk]; exact hwk), ← pc]; exact h4
  | true =>
    cases hmk : p.majs.contains k with
    | true =>
      have hmi : p.majs.contains i = false := by
        cases hmi : p.majs.contains i with
        | true => exact absurd ⟨hmk, hmi⟩ hmm
        | false => rfl
      rw [StepK.major hk hwk hmk] at h
      obtain ⟨h3, h4⟩ := h
      obtain ⟨v0, hv0⟩ := h3.1
      have hMaj : ∀ (b : Act) (Γ2 : Facts), (∀ w, KnownK ops p ok Γ2 w ↔ KnownK ops p ok Γ w) → execOp b.eval ok = execOp a.eval ok → MajAtK P ops p k ok vs S b Γ2 := by
        intro b Γ2 e1 e2
        unfold MajAtK at *
        rw [e2]
        exact ⟨h3.1, h3.2.1, h3.2.2.1, fun w hw => h3.2.2.2 w ((e1 w).1 hw)⟩
      cases hwi : Region.wanted oi (yielded ops a.tmps) with
      | false =>
        rw [StepK.pass hi hwi, StepK.major hk (by rw [wk]; exact hwk) hmk]
        refine ⟨hMaj _ _ (fun _ => Iff.rfl) (ek a undef), fun v hv => ?_⟩
        have := h4 v hv
        rw [StepK.pass hi (by rw [wi]; exact hwi), pc] at this
        exact this
      | true =>
        cases hn : p.mins.contains i with
        | true =>
          rw [StepK.minor hi hwi hmi hn]
          have h5 := h4 v0 hv0
          rw [StepK.minor hi (by rw [wi]; exact hwi) hmi hn] at h5
          obtain ⟨ob, kd, h6, _⟩ := h5
          have h7 : MinAtK P ops p oi a Γ ob kd := fun w hw => by rw [← ei a v0]; exact h6 w (kI.2 hw)
          refine ⟨ob, kd, h7, fun g => ?_⟩
          rw [StepK.major hk (by rw [wk]; exact hwk) hmk]
          refine ⟨hMaj _ _ (fun _ => kK) (ek a _), fun v hv => ?_⟩
          have h8 := h4 v hv
          rw [StepK.minor hi (by rw [wi]; exact hwi) hmi hn] at h8
          obtain ⟨ob2, kd2, h9, h10⟩ := h8
          have e1 := h9 w (kI.2 hw)
          rw [ei, h7 w hw] at e1
          simp only [Result.ok.injEq, Next.value.injEq] at e1
          have e2 := mkv_injK e1.1
          have e3 := alloc_injK e1.2
          subst e2 e3
          rw [Facts.set_comm _ _ _ hik, ← pc]
          exact h10 g
        | false =>
          rw [StepK.plain hi hwi hmi hn]
          have h5 := h4 v0 hv0
          rw [StepK.plain hi (by rw [wi]; exact hwi) hmi hn] at h5
          obtain ⟨f, h6, _⟩ := h5
          have h7 : PureAtK P ops p oi a Γ f := fun w hw => by rw [← ei a v0]; exact h6 w (kI.2 hw)
          refine ⟨f, h7, ?_⟩
          rw [StepK.major hk (by rw [wk]; exact hwk) hmk]
          refine ⟨hMaj _ _ (fun _ => Iff.rfl) (ek a _), fun v hv => ?_⟩
          have h8 := h4 v hv
          rw [StepK.plain hi (by rw [wi]; exact hwi) hmi hn] at h8
          obtain ⟨f2, h9, h10⟩ := h8
          have e1 := h9 w (kI.2 hw)
          rw [ei, h7 w hw] at e1
          simp only [Result.ok.injEq, Next.value.injEq] at e1
          rw [e1.1, ← pc]
          exact h10
    | false =>
      cases hnk : p.mins.contains k with
      | true =>
        rw [StepK.minor hk hwk hmk hnk] at h
        obtain ⟨obk, kdk, h3, h4⟩ := h
        have hMin : ∀ (b : Act) (Γ2 : Facts), (∀ w, KnownK ops p ok Γ2 w ↔ KnownK ops p ok Γ w) → execOp b.eval ok = execOp a.eval ok → MinAtK P ops p ok b Γ2 obk kdk := by
          intro b Γ2 e1 e2 w hw
          rw [e2]
          exact h3 w ((e1 w).1 hw)
        cases hwi : Region.wanted oi (yielded ops a.tmps) with
        | false =>
          rw [StepK.pass hi hwi, StepK.minor hk (by rw [wk]; exact hwk) hmk hnk]
          refine ⟨obk, kdk, hMin _ _ (fun _ => Iff.rfl) (ek a undef), fun g => ?_⟩
          have := h4 g
          rw [StepK.pass hi (by rw [wi]; exact hwi), pc] at this
          exact this
        | true =>
          cases hm : p.majs.contains i with
          | true =>
            rw [StepK.major hi hwi hm]
            have h5 := h4 0
            rw [StepK.major hi (by rw [wi]; exact hwi) hm] at h5
            have h6 := h5.1
            refine ⟨⟨h6.1, h6.2.1, h6.2.2.1, fun w hw => by rw [← ei a (mkv kdk 0)]; exact h6.2.2.2 w (kI.2 hw)⟩, fun v hv => ?_⟩
            rw [StepK.minor hk (by rw [wk]; exact hwk) hmk hnk]
            refine ⟨obk, kdk, hMin _ _ (fun _ => kK) (ek a _), fun g => ?_⟩
            have h8 := h4 g
            rw [StepK.major hi (by rw [wi]; exact hwi) hm] at h8
            rw [Facts.set_comm _ _ _ hik, ← pc]
            exact h8.2 v hv
          | false =>
            cases hn : p.mins.contains i with
            | true =>
              rw [StepK.minor hi hwi hm hn]
              have h5 := h4 0
              rw [StepK.minor hi (by rw [wi]; exact hwi) hm hn] at h5
              obtain ⟨ob, kd, h6, _⟩ := h5
              have h7 : MinAtK P ops p oi a Γ ob kd := fun w hw => by rw [← ei a (mkv kdk 0)]; exact h6 w (kI.2 hw)
              refine ⟨ob, kd, h7, fun g => ?_⟩
              rw [StepK.minor hk (by rw [wk]; exact hwk) hmk hnk]
              refine ⟨obk, kdk, hMin _ _ (fun _ => kK) (ek a _), fun g2 => ?_⟩
              have h8 := h4 g2
              rw [StepK.minor hi (by rw [wi]; exact hwi) hm hn] at h8
              obtain ⟨ob2, kd2, h9, h10⟩ := h8
              have e1 := h9 w (kI.2 hw)
              rw [ei, h7 w hw] at e1
              simp only [Result.ok.injEq, Next.value.injEq] at e1
              have e2 := mkv_injK e1.1
              have e3 := alloc_injK e1.2
              subst e2 e3
              rw [Facts.set_comm _ _ _ hik, ← pc]
              exact h10 g
            | false =>
              rw [StepK.plain hi hwi hm hn]
              have h5 := h4 0
              rw [StepK.plain hi (by rw [wi]; exact hwi) hm hn] at h5
              obtain ⟨f, h6, _⟩ := h5
              have h7 : PureAtK P ops p oi a Γ f := fun w hw => by rw [← ei a (mkv kdk 0)]; exact h6 w (kI.2 hw)
              refine ⟨f, h7, ?_⟩
              rw [StepK.minor hk (by rw [wk]; exact hwk) hmk hnk]
              refine ⟨obk, kdk, hMin _ _ (fun _ => Iff.rfl) (ek a _), fun g2 => ?_⟩
              have h8 := h4 g2
              rw [StepK.plain hi (by rw [wi]; exact hwi) hm hn] at h8
              obtain ⟨f2, h9, h10⟩ := h8
              have e1 := h9 w (kI.2 hw)
              rw [ei, h7 w hw] at e1
              simp only [Result.ok.injEq, Next.value.injEq] at e1
              rw [e1.1, ← pc]
              exact h10
      | false =>
        rw [StepK.plain hk hwk hmk hnk] at h
        obtain ⟨fk, h3, h4⟩ := h
        have hPure : ∀ (b : Act) (Γ2 : Facts), (∀ w, KnownK ops p ok Γ2 w ↔ KnownK ops p ok Γ w) → execOp b.eval ok = execOp a.eval ok → PureAtK P ops p ok b Γ2 fk := by
          intro b Γ2 e1 e2 w hw
          rw [e2]
          exact h3 w ((e1 w).1 hw)
        cases hwi : Region.wanted oi (yielded ops a.tmps) with
        | false =>
          rw [StepK.pass hi hwi, StepK.plain hk (by rw [wk]; exact hwk) hmk hnk]
          refine ⟨fk, hPure _ _ (fun _ => Iff.rfl) (ek a undef), ?_⟩
          rw [StepK.pass hi (by rw [wi]; exact hwi), pc] at h4
          exact h4
        | true =>
          cases hm : p.majs.contains i with
          | true =>
            rw [StepK.major hi hwi hm]
            rw [StepK.major hi (by rw [wi]; exact hwi) hm] at h4
            have h6 := h4.1
            refine ⟨⟨h6.1, h6.2.1, h6.2.2.1, fun w hw => by rw [← ei a fk]; exact h6.2.2.2 w hw⟩, fun v hv => ?_⟩
            rw [StepK.plain hk (by rw [wk]; exact hwk) hmk hnk]
            refine ⟨fk, hPure _ _ (fun _ => kK) (ek a _), ?_⟩
            rw [← pc]
            exact h4.2 v hv
          | false =>
            cases hn : p.mins.contains i with
            | true =>
              rw [StepK.minor hi hwi hm hn]
              rw [StepK.minor hi (by rw [wi]; exact hwi) hm hn] at h4
              obtain ⟨ob, kd, h6, h7⟩ := h4
              refine ⟨ob, kd, fun w hw => by rw [← ei a fk]; exact h6 w hw, fun g => ?_⟩
              rw [StepK.plain hk (by rw [wk]; exact hwk) hmk hnk]
              refine ⟨fk, hPure _ _ (fun _ => kK) (ek a _), ?_⟩
              rw [← pc]
              exact h7 g
            | false =>
              rw [StepK.plain hi hwi hm hn]
              rw [StepK.plain hi (by rw [wi]; exact hwi) hm hn] at h4
              obtain ⟨f, h6, h7⟩ := h4
              refine ⟨f, fun w hw => by rw [← ei a fk]; exact h6 w hw, ?_⟩
              rw [StepK.plain hk (by rw [wk]; exact hwk) hmk hnk]
              refine ⟨fk, hPure _ _ (fun _ => Iff.rfl) (ek a _), ?_⟩
              rw [← pc]
              exact h7

/-- An operation that may come up now comes to the front of the walk. -/
theorem wpR_frontK {Q : Act → World → Prop} {i : Nat} {oi : Oper} {l : List Nat} {w : World} (hi : ops[i]? = some oi) (hs : Region.noSelect ops = true) :
    ∀ (pre : List Nat) (vs : List Value) (S : World → Prop) (Γ : Facts) (a : Act),
      (∀ k ∈ pre, i ≠ k ∧ k ≠ p.tl ∧ ∃ ok, ops[k]? = some ok ∧ ok.apart ops oi = true ∧ oi.apart ops ok = true ∧ ¬ (p.majs.contains k = true ∧ p.majs.contains i = true)) →
      i ≠ p.tl → KnownK ops p oi Γ w → wpRK P ops p Q (pre ++ i :: l) vs S Γ a → StepK P ops p i (wpRK P ops p Q (pre ++ l)) vs S Γ a
  | [], _, _, _, _, _, hit, _, h => by
    simp only [List.nil_append, wpRK, if_neg hit] at h
    exact h
  | k :: pre, vs, S, Γ, a, hp, hit, hw, h => by
    obtain ⟨hne, hkt, ok, hk, h1, h2, hm⟩ := hp k (by simp)
    simp only [List.cons_append, wpRK, if_neg hkt] at h ⊢
    refine StepK.swap hi hk hne h1 h2 hs hm hw (StepK.mono (fun vs S Γ2 a hΓ hK => ?_) h)
    have hw2 : KnownK ops p oi Γ2 w := by
      rcases hΓ with rfl | ⟨F, rfl⟩
      · exact hw
      · exact (KnownK.set hk h1).2 hw
    exact wpR_frontK hi hs pre vs S Γ2 a (fun j hj => hp j (by simp [hj])) hit hw2 hK

theorem reach_listedK {listed : Array Bool} (hcl : ∀ (j : Nat) (o : Oper), ops[j]? = some o → listed.getD j false = true → ∀ e ∈ o.after, Region.binds .any e = true → listed.getD e.on false = true) :
    ∀ (f k i : Nat), listed.getD i false = true → reach ops f k i = true → listed.getD k false = true
  | 0, _, _, _, h => by simp [reach] at h
  | f + 1, k, i, hi, h => by
    unfold reach at h
    split at h
    · rename_i o ho
      obtain ⟨e, he, hb⟩ := Array.any_eq_true'.1 h
      simp only [Bool.and_eq_true, Bool.or_eq_true, beq_iff_eq] at hb
      have h1 := hcl i o ho hi e he hb.1
      rcases hb.2 with h2 | h2
      · rw [← h2]; exact h1
      · exact reach_listedK hcl f k e.on h1 h2
    · cases h

theorem list_setK {listed : Array Bool} {i j : Nat} (hi : i < listed.size) : (listed.setIfInBounds i true).getD j false = (if j = i then true else listed.getD j false) := by
  by_cases h : j = i
  · subst h
    simp [hi]
  · rw [if_neg h, getD_set_ne false (Ne.symm h)]

theorem range_filter_splitK {l : List Nat} {i : Nat} (hl : l.Pairwise (· < ·)) (hi : i ∈ l) : ∃ pre post, l = pre ++ i :: post ∧ (∀ k ∈ pre, k < i) ∧ (pre ++ post).Pairwise (· < ·) ∧ (∀ j, j ∈ pre ++ post ↔ j ∈ l ∧ j ≠ i) := by
  obtain ⟨pre, post, rfl⟩ := List.append_of_mem hi
  rw [List.pairwise_append, List.pairwise_cons] at hl
  obtain ⟨h1, ⟨h2, h3⟩, h4⟩ := hl
  refine ⟨pre, post, rfl, fun k hk => h4 k hk i (by simp), ?_, fun j => ?_⟩
  · rw [List.pairwise_append]
    exact ⟨h1, h3, fun x hx y hy => h4 x hx y (by simp [hy])⟩
  · simp only [List.mem_append, List.mem_cons]
    constructor
    · rintro (hj | hj)
      · have := h4 j hj i (by simp)
        exact ⟨.inl hj, by omega⟩
      · have := h2 j hj
        exact ⟨.inr (.inr hj), by omega⟩
    · rintro ⟨hj | hj | hj, hne⟩
      · exact .inl hj
      · exact absurd hj hne
      · exact .inr hj

theorem wpAny_of_tailK {Q : Exit → Act → World → Prop} {d tl : Nat} (hback : backB ops = true) (ht : tailB ops tl d = true) :
    ∀ (fuel k : Nat) (listed : Array Bool) (a : Act) (w : World), listed.size = ops.size → (∀ j, j < ops.size → (listed.getD j false = false ↔ k ≤ j)) → ops.size - k ≤ fuel →
      (∀ (j : Nat) (o : Oper), ops[j]? = some o → listed.getD j false = true → ∀ e ∈ o.after, Region.binds .any e = true → listed.getD e.on false = true) → tl ≤ k →
      wpOps P ops Q (List.range' k (ops.size - k)) a w → wpAny P .any ops Q fuel listed a w := by
  have trueOf : ∀ {listed : Array Bool} {j : Nat}, listed.size = ops.size → j < ops.size → listed.getD j true = listed.getD j false := by
    intro listed j h1 h2
    simp [show j < listed.size by omega]
  intro fuel
  induction fuel with
  | zero =>
    intro k listed a w hsz hl hlen hcl htk h
    have h0 : ops.size - k = 0 := by omega
    rw [h0] at h
    refine ⟨?_, h⟩
    cases hr : Region.ready .any ops listed with
    | nil => rfl
    | cons j rs =>
      exfalso
      have hj : j ∈ Region.ready .any ops listed := by rw [hr]; simp
      rw [mem_ready] at hj
      obtain ⟨h1, o, ho, _⟩ := hj
      have hlt := (Array.getElem?_eq_some_iff.1 ho).1
      rw [trueOf hsz hlt] at h1
      have := (hl j hlt).1 h1
      omega
  | succ fuel ih =>
    intro k listed a w hsz hl hlen hcl htk h
    refine ⟨fun hr => ?_, fun i hi => ?_⟩
    · rcases Nat.lt_or_ge k ops.size with hk | hk
      · exfalso
        have hmem : k ∈ Region.ready .any ops listed := by
          rw [mem_ready]
          refine ⟨by rw [trueOf hsz hk]; exact (hl k hk).2 (Nat.le_refl _), ops[k], Array.getElem?_eq_getElem hk, fun e he hb => ?_⟩
          have hlt : e.on < k := by
            have := (List.all_eq_true.1 hback) k (List.mem_range.2 hk)
            rw [Array.getElem?_eq_getElem hk] at this
            have := Array.all_eq_true_iff_forall_mem.1 this e he
            simpa [hb] using this
          cases hx : listed.getD e.on false with
          | true => rfl
          | false =>
            have := (hl e.on (by omega)).1 hx
            omega
        rw [hr] at hmem
        cases hmem
      · rw [show ops.size - k = 0 by omega] at h
        exact h
    · rw [mem_ready] at hi
      obtain ⟨h0, oi, hoi, hall⟩ := hi
      have hlt := (Array.getElem?_eq_some_iff.1 hoi).1
      rw [trueOf hsz hlt] at h0
      have hki := (hl i hlt).1 h0
      have hik : i = k := by
        rcases Nat.lt_or_ge k i with hlt2 | hge
        · exfalso
          have h1 := (List.all_eq_true.1 ht) i (List.mem_range.2 hlt)
          rw [Bool.or_eq_true] at h1
          rcases h1 with h1 | h1
          · have := of_decide_eq_true h1; omega
          · have h2 := (List.all_eq_true.1 h1) k (List.mem_range.2 hlt2)
            cases d with
            | zero => simp [reach] at h2
            | succ d =>
              unfold reach at h2
              rw [hoi] at h2
              simp only at h2
              obtain ⟨e, he, hb⟩ := Array.any_eq_true'.1 h2
              simp only [Bool.and_eq_true, Bool.or_eq_true, beq_iff_eq] at hb
              have h3 := hall e he hb.1
              have h4 := (hl k (by omega)).2 (Nat.le_refl _)
              rcases hb.2 with h5 | h5
              · rw [h5, h4] at h3; cases h3
              · have := reach_listedK hcl d k e.on h3 h5
                rw [h4] at this; cases this
        · omega
      subst hik
      have hr : List.range' i (ops.size - i) = i :: List.range' (i + 1) (ops.size - (i + 1)) := by
        rw [show ops.size - i = (ops.size - (i + 1)) + 1 by omega, List.range'_succ]
      rw [hr, wpOps_cons] at h
      refine wpOp_mono (fun a w hh => ih (i + 1) _ a w (by simpa using hsz) (fun j hj => ?_) (by omega) ?_ (by omega) hh) h
      · rw [list_setK (by omega)]
        by_cases hji : j = i
        · subst hji; simp
        · rw [if_neg hji, hl j hj]; omega
      · intro j o ho hj e he hb
        rw [list_setK (by omega)]
        split
        · rfl
        · rw [list_setK (by omega)] at hj
          split at hj
          · rename_i hji
            subst hji
            rw [hoi] at ho
            injection ho with ho
            subst ho
            exact hall e he hb
          · exact hcl j o ho hj e he hb

theorem wpAny_of_RK {Q : Exit → Act → World → Prop} {d : Nat} (hok : okB ops p.majs d = true) (ht : tailB ops p.tl d = true) (hE : ∀ a w, p.E a w → wpOps P ops Q (List.range' p.tl (ops.size - p.tl)) a w) (hT : ∀ b, p.T b → b < p.w0.heap.size) :
    ∀ (fuel : Nat) (listed : Array Bool) (l : List Nat) (vs : List Value) (S : World → Prop) (Γ : Facts) (a : Act) (w : World),
      listed.size = ops.size → (∀ j, j ∈ l ↔ j < ops.size ∧ listed.getD j false = false) → l.Pairwise (· < ·) → l.length ≤ fuel →
      (∀ (j : Nat) (o : Oper), ops[j]? = some o → listed.getD j false = true → ∀ e ∈ o.after, Region.binds .any e = true → listed.getD e.on false = true) →
      (p.tl < ops.size → p.tl ∈ l) → CK p.T p.N p.w0 w → S w → (∀ w ob, S w → S (w.alloc ob)) → (∀ i, Γ i w) → (∀ i, StableK p (Γ i)) →
      wpRK P ops p (fun a w => Q .normal a w) l vs S Γ a → wpAny P .any ops Q fuel listed a w := by
  simp only [okB, Bool.and_eq_true] at hok
  obtain ⟨⟨hs, hback⟩, hpair⟩ := hok
  have trueOf : ∀ {listed : Array Bool} {j : Nat}, listed.size = ops.size → j < ops.size → listed.getD j true = listed.getD j false := by
    intro listed j h1 h2
    simp [show j < listed.size by omega]
  have readyNil : ∀ {listed : Array Bool} {l : List Nat}, listed.size = ops.size → (∀ j, j ∈ l ↔ j < ops.size ∧ listed.getD j false = false) → l.Pairwise (· < ·) → Region.ready .any ops listed = [] → l = [] := by
    intro listed l hsz hl hsort hr
    cases l with
    | nil => rfl
    | cons i l =>
      exfalso
      have hi := (hl i).1 (by simp)
      have hmem : i ∈ Region.ready .any ops listed := by
        rw [mem_ready]
        refine ⟨by rw [trueOf hsz hi.1]; exact hi.2, ops[i], Array.getElem?_eq_getElem hi.1, fun e he hb => ?_⟩
        have hlt : e.on < i := by
          have := (List.all_eq_true.1 hback) i (List.mem_range.2 hi.1)
          rw [Array.getElem?_eq_getElem hi.1] at this
          have := Array.all_eq_true_iff_forall_mem.1 this e he
          simpa [hb] using this
        cases hx : listed.getD e.on false with
        | true => rfl
        | false =>
          have := (hl e.on).2 ⟨by omega, hx⟩
          rcases List.mem_cons.1 this with h | h
          · omega
          · have := (List.pairwise_cons.1 hsort).1 e.on h
            omega
      rw [hr] at hmem
      cases hmem
  intro fuel
  induction fuel with
  | zero =>
    intro listed l vs S Γ a w hsz hl hsort hlen hcl htm hC hS hSa hΓ hΓs h
    have hl0 : l = [] := List.eq_nil_of_length_eq_zero (by omega)
    subst hl0
    refine ⟨?_, h w hC hS hΓ⟩
    cases hr : Region.ready .any ops listed with
    | nil => rfl
    | cons j rs =>
      exfalso
      have hj : j ∈ Region.ready .any ops listed := by rw [hr]; simp
      rw [mem_ready] at hj
      obtain ⟨h0, o, ho, _⟩ := hj
      have hlt := (Array.getElem?_eq_some_iff.1 ho).1
      rw [trueOf hsz hlt] at h0
      have := (hl j).2 ⟨hlt, h0⟩
      cases this
  | succ fuel ih =>
    intro listed l vs S Γ a w hsz hl hsort hlen hcl htm hC hS hSa hΓ hΓs h
    have reached : ∀ (i k : Nat) (oi : Oper), ops[i]? = some oi → (∀ e ∈ oi.after, Region.binds .any e = true → listed.getD e.on false = true) → reach ops d k i = true → listed.getD k false = true := by
      intro i k oi hoi hall h1
      cases d with
      | zero => simp [reach] at h1
      | succ d =>
        unfold reach at h1
        rw [hoi] at h1
        simp only at h1
        obtain ⟨e, he, hb⟩ := Array.any_eq_true'.1 h1
        simp only [Bool.and_eq_true, Bool.or_eq_true, beq_iff_eq] at hb
        have h2 := hall e he hb.1
        rcases hb.2 with h3 | h3
        · rw [← h3]; exact h2
        · exact reach_listedK hcl d k e.on h2 h3
    have forced : ∀ (i k : Nat), i < ops.size → p.tl ≤ i → k < i → reach ops d k i = true := by
      intro i k hi h1 h2
      have h3 := (List.all_eq_true.1 ht) i (List.mem_range.2 hi)
      rw [Bool.or_eq_true] at h3
      rcases h3 with h3 | h3
      · have := of_decide_eq_true h3; omega
      · exact (List.all_eq_true.1 h3) k (List.mem_range.2 h2)
    by_cases hhead : ∃ post, l = p.tl :: post
    · obtain ⟨post, rfl⟩ := hhead
      have h1 := (hl p.tl).1 (by simp)
      refine wpAny_of_tailK hback ht (fuel + 1) p.tl listed a w hsz (fun j hj => ⟨fun h2 => ?_, fun h2 => ?_⟩) ?_ hcl (Nat.le_refl _) ?_
      · have := (hl j).2 ⟨hj, h2⟩
        rcases List.mem_cons.1 this with h3 | h3
        · omega
        · have := (List.pairwise_cons.1 hsort).1 j h3
          omega
      · rcases Nat.lt_or_ge p.tl j with h3 | h3
        · cases hx : listed.getD j false with
          | false => rfl
          | true =>
            have := reached j p.tl ops[j] (Array.getElem?_eq_getElem hj) (hcl j _ (Array.getElem?_eq_getElem hj) hx) (forced j p.tl hj (by omega) h3)
            rw [h1.2] at this; cases this
        · have : j = p.tl := by omega
          rw [this]; exact h1.2
      · have hsub : List.range' p.tl (ops.size - p.tl) ⊆ p.tl :: post := by
          intro j hj
          rw [List.mem_range'_1] at hj
          refine (hl j).2 ⟨by omega, ?_⟩
          rcases Nat.lt_or_ge p.tl j with h3 | h3
          · cases hx : listed.getD j false with
            | false => rfl
            | true =>
              have hj2 : j < ops.size := by omega
              have := reached j p.tl ops[j] (Array.getElem?_eq_getElem hj2) (hcl j _ (Array.getElem?_eq_getElem hj2) hx) (forced j p.tl hj2 (by omega) h3)
              rw [h1.2] at this; cases this
          · have : j = p.tl := by omega
            rw [this]; exact h1.2
        have := (List.nodup_range' (s := p.tl) (n := ops.size - p.tl)).length_le_of_subset hsub
        rw [List.length_range'] at this
        simp at hlen this ⊢
        omega
      · simp only [wpRK, if_true] at h
        exact hE _ _ (h w hC hS hΓ)
    refine ⟨fun hr => ?_, fun i hi => ?_⟩
    · have hl0 := readyNil hsz hl hsort hr
      subst hl0
      exact h w hC hS hΓ
    · rw [mem_ready] at hi
      obtain ⟨h0, oi, hoi, hall⟩ := hi
      have hlt := (Array.getElem?_eq_some_iff.1 hoi).1
      rw [trueOf hsz hlt] at h0
      have him : i ∈ l := (hl i).2 ⟨hlt, h0⟩
      obtain ⟨pre, post, rfl, hpre, hsort2, hmem2⟩ := range_filter_splitK hsort him
      have hit : i < p.tl := by
        rcases Nat.lt_or_ge i p.tl with h1 | h1
        · exact h1
        · exfalso
          have hun : ∀ k, k < i → listed.getD k false = true := fun k hk => reached i k oi hoi hall (forced i k hlt h1 hk)
          have htlm := (hl p.tl).1 (htm (by omega))
          have hi2 : i = p.tl := by
            rcases Nat.lt_or_ge p.tl i with h2 | h2
            · have := hun _ h2; rw [htlm.2] at this; cases this
            · omega
          have hpre0 : pre = [] := by
            cases pre with
            | nil => rfl
            | cons k pre =>
              have h2 := hun k (hpre k (by simp))
              rw [((hl k).1 (by simp)).2] at h2; cases h2
          subst hpre0 hi2
          exact hhead ⟨post, rfl⟩
      have hcond : ∀ k ∈ pre, i ≠ k ∧ k ≠ p.tl ∧ ∃ ok, ops[k]? = some ok ∧ ok.apart ops oi = true ∧ oi.apart ops ok = true ∧ ¬ (p.majs.contains k = true ∧ p.majs.contains i = true) := by
        intro k hk
        have hki := hpre k hk
        have hkl := (hl k).1 (by simp [hk])
        refine ⟨by omega, by omega, ops[k], Array.getElem?_eq_getElem hkl.1, ?_⟩
        have h1 := (List.all_eq_true.1 ((List.all_eq_true.1 hpair) i (List.mem_range.2 hlt))) k (List.mem_range.2 hki)
        rw [Bool.or_eq_true] at h1
        rcases h1 with h1 | h1
        · exfalso
          cases d with
          | zero => simp [reach] at h1
          | succ d =>
            unfold reach at h1
            rw [hoi] at h1
            simp only at h1
            obtain ⟨e, he, hb⟩ := Array.any_eq_true'.1 h1
            simp only [Bool.and_eq_true, Bool.or_eq_true, beq_iff_eq] at hb
            have h2 := hall e he hb.1
            rcases hb.2 with h3 | h3
            · rw [h3, hkl.2] at h2; cases h2
            · have := reach_listedK hcl d k e.on h2 h3
              rw [hkl.2] at this; cases this
        · rw [Array.getElem?_eq_getElem hkl.1, hoi] at h1
          simp only [Bool.and_eq_true, Bool.not_eq_true', Bool.and_eq_false_iff] at h1
          refine ⟨h1.1.1, h1.1.2, fun ⟨h2, h3⟩ => ?_⟩
          rcases h1.2 with h4 | h4
          · rw [h2] at h4; cases h4
          · rw [h3] at h4; cases h4
      have hkn : KnownK ops p oi Γ w := ⟨hC, fun j _ => hΓ j⟩
      have hst := wpR_frontK hoi hs pre vs S Γ a hcond (by omega) hkn h
      have htm2 : p.tl < ops.size → p.tl ∈ pre ++ post := fun h1 => (hmem2 p.tl).2 ⟨htm h1, by omega⟩
      have hsz2 : (listed.setIfInBounds i true).size = ops.size := by simpa using hsz
      have hl2 : ∀ j, j ∈ pre ++ post ↔ j < ops.size ∧ (listed.setIfInBounds i true).getD j false = false := by
        intro j
        rw [hmem2, hl, list_setK (by omega)]
        by_cases hji : j = i
        · simp [hji]
        · simp [hji]
      have hlen2 : (pre ++ post).length ≤ fuel := by simp at hlen ⊢; omega
      have hcl2 : ∀ (j : Nat) (o : Oper), ops[j]? = some o → (listed.setIfInBounds i true).getD j false = true → ∀ e ∈ o.after, Region.binds .any e = true → (listed.setIfInBounds i true).getD e.on false = true := by
        intro j o ho hj e he hb
        rw [list_setK (by omega)]
        split
        · rfl
        · rw [list_setK (by omega)] at hj
          split at hj
          · rename_i hji
            subst hji
            rw [hoi] at ho
            injection ho with ho
            subst ho
            exact hall e he hb
          · exact hcl j o ho hj e he hb
      unfold wpOp
      rw [hoi]
      simp only
      cases hw : Region.wanted oi (yielded ops a.tmps) with
      | false =>
        rw [StepK.pass hoi hw] at hst
        simp only [Bool.false_eq_true, if_false]
        exact ih _ _ vs S Γ _ w hsz2 hl2 hsort2 hlen2 hcl2 htm2 hC hS hSa hΓ hΓs hst
      | true =>
        simp only [if_true]
        left
        unfold Oper.wp
        cases hm : p.majs.contains i with
        | true =>
          rw [StepK.major hoi hw hm] at hst
          obtain ⟨⟨_, hkeep, hpost, hrun⟩, hgo⟩ := hst
          have h1 := hrun w hkn hS
          have go : ∀ v w2, (p.shape i vs v ∧ CK p.T p.N w w2 ∧ p.post i vs v w2 ∧ p.keep i vs v w2) → wpAny P .any ops Q fuel (listed.setIfInBounds i true) (a.put oi.dst v) w2 := by
            rintro v w2 ⟨e1, e2, e3, e4⟩
            refine ih _ _ _ _ _ _ w2 hsz2 hl2 hsort2 hlen2 hcl2 htm2 (hC.trans e2) e3 (hpost v) (fun j => ?_) (fun j => ?_) (hgo v e1)
            · by_cases hj : j = i
              · subst hj; rw [Facts.set_self]; exact e4
              · rw [Facts.set_other hj]; exact hΓs j w w2 hC e2 (hΓ j)
            · by_cases hj : j = i
              · subst hj; rw [Facts.set_self]; exact hkeep v
              · rw [Facts.set_other hj]; exact hΓs j
          generalize (execOp a.eval oi).run P w = r at h1
          cases r with
          | halt x w2 => exact h1.elim
          | ok n w2 =>
            cases n with
            | value u => exact go u w2 h1
            | skip => exact go undef w2 h1
            | enter f args =>
              refine Calls.mono h1 ?_
              rintro e w3 ⟨v, rfl, h2⟩
              exact go v w3 h2
            | _ => exact h1.elim
        | false =>
          cases hn : p.mins.contains i with
          | true =>
            rw [StepK.minor hoi hw hm hn] at hst
            obtain ⟨ob, kd, h1, h2⟩ := hst
            rw [h1 w hkn]
            have e2 : CK p.T p.N w (w.alloc ob) := (CK.refl _ _ w).alloc ob
            refine ih _ _ _ _ _ _ (w.alloc ob) hsz2 hl2 hsort2 hlen2 hcl2 htm2 (hC.alloc ob) (hSa w ob hS) hSa (fun j => ?_) (fun j => ?_) (h2 w.heap.size)
            · by_cases hj : j = i
              · subst hj; rw [Facts.set_self]; exact ⟨hC.1.size, heap_alloc_new w ob⟩
              · rw [Facts.set_other hj]; exact hΓs j w _ hC e2 (hΓ j)
            · by_cases hj : j = i
              · subst hj
                rw [Facts.set_self]
                rintro w1 w2 _ e4 ⟨e5, e6⟩
                refine ⟨e5, (e4.1.block _ (Array.getElem?_eq_some_iff.1 e6).1 fun hTg => ?_).trans e6⟩
                have := hT _ hTg
                omega
              · rw [Facts.set_other hj]; exact hΓs j
          | false =>
            rw [StepK.plain hoi hw hm hn] at hst
            obtain ⟨f, h1, h2⟩ := hst
            rw [h1 w hkn]
            exact ih _ _ vs S Γ _ w hsz2 hl2 hsort2 hlen2 hcl2 htm2 hC hS hSa hΓ hΓs h2

/-- A region that draws its order, walked in the order of the text. -/
theorem wp_region_RK (d : Nat) {id : Nat} {Q : Exit → Act → World → Prop} {a : Act} {w : World} (hm : P.follows .mixedOrders = true) (hok : okB ops p.majs d = true) (ht : tailB ops p.tl d = true) (hE : ∀ a w, p.E a w → wpOps P ops Q (List.range' p.tl (ops.size - p.tl)) a w) (hw : p.w0 = w) (hT : ∀ b, p.T b → b < w.heap.size)
    (S : World → Prop) (hS : S w.drew) (hSa : ∀ w ob, S w → S (w.alloc ob))
    (h : wpRK P ops p (fun a w => Q .normal a w) (List.range ops.size) [] S (fun _ _ => True) a) : (Code.region id ops true).wp P Q a w := by
  subst hw
  refine wp_region_any hm (wpAny_of_RK hok ht hE hT _ _ (List.range ops.size) [] S _ a _ (by simp) (fun j => ?_) List.pairwise_lt_range (by simp) ?_ (fun h1 => List.mem_range.2 h1) ((CK.refl _ _ _).drew) hS hSa (fun _ => trivial) (fun _ _ _ _ _ _ => trivial) h)
  · rw [List.mem_range]
    by_cases hj : j < ops.size <;> simp [hj]
  · intro j o ho hj
    have := (Array.getElem?_eq_some_iff.1 ho).1
    simp [this] at hj
end
section
variable (P : Program) (ops : Array Oper) (p : PlanK) (Q : Act → World → Prop)

/-- The walk, over the operations themselves. -/
def wpXK : Nat → List Oper → List Value → (World → Prop) → Facts → Act → Prop
  | _, [], _, S, Γ, a => ∀ w, CK p.T p.N p.w0 w → S w → (∀ i, Γ i w) → Q a w
  | k, o :: R, vs, S, Γ, a =>
    if k = p.tl then (∀ w, CK p.T p.N p.w0 w → S w → (∀ i, Γ i w) → p.E a w) else
    if Region.wanted o (yielded ops a.tmps) = true then
      if p.majs.contains k then MajAtK P ops p k o vs S a Γ ∧ ∀ v, p.shape k vs v → wpXK (k + 1) R (vs ++ [v]) (p.post k vs v) (Γ.set k (p.keep k vs v)) (a.put o.dst v)
      else if p.mins.contains k then ∃ ob kd, MinAtK P ops p o a Γ ob kd ∧ ∀ g, wpXK (k + 1) R vs S (Γ.set k (LaidK p g ob)) (a.put o.dst (mkv kd g))
      else ∃ f, PureAtK P ops p o a Γ f ∧ wpXK (k + 1) R vs S Γ (a.put o.dst f)
    else wpXK (k + 1) R vs S Γ (a.put o.dst undef)
end

section
variable {P : Program} {ops : Array Oper} {p : PlanK} {Q : Act → World → Prop} {k : Nat} {R : List Oper} {vs : List Value} {S : World → Prop} {Γ : Facts} {a : Act} {o : Oper}

theorem wpR_of_XK : ∀ (R : List Oper) (k : Nat) (vs : List Value) (S : World → Prop) (Γ : Facts) (a : Act), (∀ j, R[j]? = ops[k + j]?) → wpXK P ops p Q k R vs S Γ a → wpRK P ops p Q (List.range' k R.length) vs S Γ a
  | [], _, _, _, _, _, _, h => h
  | o :: R, k, vs, S, Γ, a, hj, h => by
    have ho : ops[k]? = some o := by simpa using (hj 0).symm
    have hj2 : ∀ j, R[j]? = ops[k + 1 + j]? := fun j => by have := hj (j + 1); simpa [Nat.add_assoc, Nat.add_comm 1 j] using this
    have ih := fun vs S Γ a => wpR_of_XK R (k + 1) vs S Γ a hj2
    simp only [List.length_cons, List.range'_succ, wpRK]
    unfold wpXK at h
    by_cases hkt : k = p.tl
    · rw [if_pos hkt] at h ⊢
      exact h
    rw [if_neg hkt] at h ⊢
    unfold StepK
    rw [ho]
    simp only
    split at h
    · rename_i hw
      rw [if_pos hw]
      split at h
      · rename_i hm
        rw [if_pos hm]
        exact ⟨h.1, fun v hv => ih _ _ _ _ (h.2 v hv)⟩
      · rename_i hm
        rw [if_neg hm]
        split at h
        · rename_i hn
          rw [if_pos hn]
          obtain ⟨ob, kd, h1, h2⟩ := h
          exact ⟨ob, kd, h1, fun g => ih _ _ _ _ (h2 g)⟩
        · rename_i hn
          rw [if_neg hn]
          obtain ⟨f, h1, h2⟩ := h
          exact ⟨f, h1, ih _ _ _ _ h2⟩
    · rename_i hw
      rw [if_neg hw]
      exact ih _ _ _ _ h

theorem st_passK (hw : Region.wanted o (yielded ops a.tmps) = false) (h : wpXK P ops p Q (k + 1) R vs S Γ (a.put o.dst undef)) (ht : (k == p.tl) = false := by rfl) : wpXK P ops p Q k (o :: R) vs S Γ a := by
  unfold wpXK
  rw [if_neg (by simpa using ht)]
  rw [if_neg (by rw [hw]; exact Bool.false_ne_true)]
  exact h

theorem st_plainK (T : Nat → Prop) (N : Addr → Prop) (w0 : World) (hT : p.T = T) (hN : p.N = N) (h0 : p.w0 = w0) {f : Value} (hw : Region.wanted o (yielded ops a.tmps) = true) (hm : p.majs.contains k = false) (hn : p.mins.contains k = false)
    (hp : ∀ w, CK T N w0 w → (∀ i, usable ops o i = true → Γ i w) → (execOp a.eval o).run P w = .ok (.value f) w)
    (h : wpXK P ops p Q (k + 1) R vs S Γ (a.put o.dst f)) (ht : (k == p.tl) = false := by rfl) : wpXK P ops p Q k (o :: R) vs S Γ a := by
  subst hT hN h0
  unfold wpXK
  rw [if_neg (by simpa using ht)]
  rw [if_pos hw, if_neg (by rw [hm]; exact Bool.false_ne_true), if_neg (by rw [hn]; exact Bool.false_ne_true)]
  exact ⟨f, fun w hk => hp w hk.1 hk.2, h⟩

theorem st_minorK (T : Nat → Prop) (N : Addr → Prop) (w0 : World) (hT : p.T = T) (hN : p.N = N) (h0 : p.w0 = w0) {ob : Obj} {kd : Option (Nat × Nat)} (hw : Region.wanted o (yielded ops a.tmps) = true) (hm : p.majs.contains k = false) (hn : p.mins.contains k = true)
    (hp : ∀ w, CK T N w0 w → (∀ i, usable ops o i = true → Γ i w) → (execOp a.eval o).run P w = .ok (.value (mkv kd w.heap.size)) (w.alloc ob))
    (h : ∀ g, wpXK P ops p Q (k + 1) R vs S (Γ.set k (fun w => w0.heap.size ≤ g ∧ w.heap[g]? = some ob)) (a.put o.dst (mkv kd g))) (ht : (k == p.tl) = false := by rfl) : wpXK P ops p Q k (o :: R) vs S Γ a := by
  subst hT hN h0
  unfold wpXK
  rw [if_neg (by simpa using ht)]
  rw [if_pos hw, if_neg (by rw [hm]; exact Bool.false_ne_true), if_pos hn]
  exact ⟨ob, kd, fun w hk => hp w hk.1 hk.2, h⟩

theorem st_majorK (T : Nat → Prop) (N : Addr → Prop) (w0 : World) (hT : p.T = T) (hN : p.N = N) (h0 : p.w0 = w0) (hw : Region.wanted o (yielded ops a.tmps) = true) (hm : p.majs.contains k = true)
    (hsh : ∃ v, p.shape k vs v) (hkeep : ∀ v w w2, CK T N w0 w → CK T N w w2 → p.keep k vs v w → p.keep k vs v w2) (hpost : ∀ v w ob, p.post k vs v w → p.post k vs v (w.alloc ob))
    (hp : ∀ w, CK T N w0 w → (∀ i, usable ops o i = true → Γ i w) → S w → settle P (fun v w2 => p.shape k vs v ∧ CK T N w w2 ∧ p.post k vs v w2 ∧ p.keep k vs v w2) ((execOp a.eval o).run P w))
    (h : ∀ v, p.shape k vs v → wpXK P ops p Q (k + 1) R (vs ++ [v]) (p.post k vs v) (Γ.set k (p.keep k vs v)) (a.put o.dst v)) (ht : (k == p.tl) = false := by rfl) : wpXK P ops p Q k (o :: R) vs S Γ a := by
  subst hT hN h0
  unfold wpXK
  rw [if_neg (by simpa using ht)]
  rw [if_pos hw, if_pos hm]
  exact ⟨⟨hsh, fun v w w2 h1 h2 h3 => hkeep v w w2 h1 h2 h3, hpost, fun w hk hS => hp w hk.1 hk.2 hS⟩, h⟩

theorem st_endK (T : Nat → Prop) (N : Addr → Prop) (w0 : World) (hT : p.T = T) (hN : p.N = N) (h0 : p.w0 = w0) (h : ∀ w, CK T N w0 w → S w → (∀ i, Γ i w) → Q a w) : wpXK P ops p Q k [] vs S Γ a := by
  subst hT hN h0
  exact h

/-- The operations from here on wait for all ahead of them: they are walked as a plain list. -/
theorem st_tailK (T : Nat → Prop) (N : Addr → Prop) (w0 : World) (hT : p.T = T) (hN : p.N = N) (h0 : p.w0 = w0) (ht : p.tl = k) (h : ∀ w, CK T N w0 w → S w → (∀ i, Γ i w) → p.E a w) : wpXK P ops p Q k (o :: R) vs S Γ a := by
  subst hT hN h0
  unfold wpXK
  rw [if_pos ht.symm]
  exact h

theorem tail_noneK (L : List Oper) (d : Nat) (tl : Nat) (h : L.length ≤ tl) : tailB L.toArray tl d = true := by
  unfold tailB
  rw [List.all_eq_true]
  intro i hi
  have hi := List.mem_range.1 hi
  rw [List.size_toArray] at hi
  simp; left; omega


/-- At the region: its plan. -/
theorem st_region_atK (tl : Nat) (d : Nat) (T : Nat → Prop) (N : Addr → Prop) (majs mins : List Nat) (post keep : Nat → List Value → Value → World → Prop) (shape : Nat → List Value → Value → Prop) (S : World → Prop) {L : List Oper} {w : World} {id : Nat} {Q : Exit → Act → World → Prop}
    (hm : P.follows .mixedOrders = true) (hok : okB L.toArray majs d = true)
    (hT : ∀ b, T b → b < w.heap.size) (hS : S w.drew) (hSa : ∀ w ob, S w → S (w.alloc ob))
    (h : wpXK P L.toArray { T := T, N := N, w0 := w, majs := majs, mins := mins, post := post, keep := keep, shape := shape, tl := tl, E := fun _ _ => False } (fun a w => Q .normal a w) 0 L [] S (fun _ _ => True) a) (hl : L.length ≤ tl) : (Code.region id L.toArray true).wp P Q a w := by
  refine wp_region_RK (p := { T := T, N := N, w0 := w, majs := majs, mins := mins, post := post, keep := keep, shape := shape, tl := tl, E := fun _ _ => False }) d hm hok (tail_noneK L d _ hl) (fun _ _ h => False.elim h) rfl hT S hS hSa ?_
  have := wpR_of_XK L 0 [] S (fun _ _ => True) a (by simp) h
  rw [List.range_eq_range']
  simpa using this
theorem st_regionK (d : Nat) (T : Nat → Prop) (N : Addr → Prop) (majs mins : List Nat) (post keep : Nat → List Value → Value → World → Prop) (shape : Nat → List Value → Value → Prop) (S : World → Prop) {L : List Oper} {w : World} {id : Nat} {Q : Exit → Act → World → Prop}
    (hm : P.follows .mixedOrders = true) (hok : okB L.toArray majs d = true)
    (hT : ∀ b, T b → b < w.heap.size) (hS : S w.drew) (hSa : ∀ w ob, S w → S (w.alloc ob))
    (h : wpXK P L.toArray { T := T, N := N, w0 := w, majs := majs, mins := mins, post := post, keep := keep, shape := shape, tl := 9999, E := fun _ _ => False } (fun a w => Q .normal a w) 0 L [] S (fun _ _ => True) a) (hl : Nat.ble L.length 9999 = true := by rfl) : (Code.region id L.toArray true).wp P Q a w :=
  st_region_atK 9999 d T N majs mins post keep shape S hm hok hT hS hSa h (Nat.le_of_ble_eq_true hl)
/-- The same, and from 'tl' on each operation waits for all ahead of it. -/
theorem st_region_tailK (d tl : Nat) (T : Nat → Prop) (N : Addr → Prop) (majs mins : List Nat) (post keep : Nat → List Value → Value → World → Prop) (shape : Nat → List Value → Value → Prop) (S : World → Prop) {L : List Oper} {w : World} {id : Nat} {Q : Exit → Act → World → Prop}
    (hm : P.follows .mixedOrders = true) (hok : okB L.toArray majs d = true) (ht : tailB L.toArray tl d = true)
    (hT : ∀ b, T b → b < w.heap.size) (hS : S w.drew) (hSa : ∀ w ob, S w → S (w.alloc ob))
    (h : wpXK P L.toArray { T := T, N := N, w0 := w, majs := majs, mins := mins, post := post, keep := keep, shape := shape, tl := tl, E := wpList P L.toArray Q (L.drop tl) } (fun a w => Q .normal a w) 0 L [] S (fun _ _ => True) a) : (Code.region id L.toArray true).wp P Q a w := by
  refine wp_region_RK (p := { T := T, N := N, w0 := w, majs := majs, mins := mins, post := post, keep := keep, shape := shape, tl := tl, E := wpList P L.toArray Q (L.drop tl) }) d hm hok ht (fun a w h => ?_) rfl hT S hS hSa ?_
  · have e := wpOps_eq_wpList (P := P) (ops := L.toArray) (Q := Q) (L.drop tl) tl (fun j => by simp)
    rw [List.length_drop] at e
    rw [List.size_toArray, e]
    exact h
  · have := wpR_of_XK L 0 [] S (fun _ _ => True) a (by simp) h
    rw [List.range_eq_range']
    simpa using this
end

end Go.Proofs.Ytogmnhneobdklaa
