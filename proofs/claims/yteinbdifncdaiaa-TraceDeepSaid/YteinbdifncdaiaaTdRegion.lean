/-
  A region that draws its order and whose calls change the world: one walk in the order of the text serves every order. The calls (and stores, appends) stand in a chain; what only reads may come up anywhere; new blocks may come up anywhere. Plain theorems over any program.
  The steps of a region's walk in the order of the text.
-/
import Derived.Test.YteinbdifncdaiaaTdBase
import Derived.Still
import Derived.KernelRfl
namespace Go.Proofs.Yteinbdifncdaiaa
open Go.RowKit
set_option linter.unusedVariables false
set_option linter.unusedSimpArgs false

/-- What is said of a region ahead of its walk: which old blocks may change, the world at its beginning, which operations change the world, which make a block, and what each of the first leaves: 'post' till the next of them, 'keep' for good, 'shape' of the value alone. -/
structure Plan where
  T : Nat → Prop
  w0 : World
  majs : List Nat
  mins : List Nat
  post : Nat → List Value → Value → World → Prop
  keep : Nat → List Value → Value → World → Prop
  shape : Nat → List Value → Value → Prop
  tl : Nat
  E : Act → World → Prop

def usable (ops : Array Oper) (o : Oper) (i : Nat) : Bool :=
  match ops[i]? with
  | some oi => (match oi.dst with | some d => (o.looksAt ops).contains d | none => false)
  | none => false

abbrev Facts := Nat → World → Prop
def Facts.set (Γ : Facts) (i : Nat) (F : World → Prop) : Facts := fun j => if j = i then F else Γ j
theorem Facts.set_self (Γ : Facts) (i : Nat) (F : World → Prop) : Γ.set i F i = F := by simp [Facts.set]
theorem Facts.set_other {Γ : Facts} {i j : Nat} {F : World → Prop} (h : j ≠ i) : Γ.set i F j = Γ j := by simp [Facts.set, h]
theorem Facts.set_comm (Γ : Facts) {i j : Nat} (F G : World → Prop) (h : i ≠ j) : (Γ.set i F).set j G = (Γ.set j G).set i F := by
  funext k
  unfold Facts.set
  by_cases h1 : k = i <;> by_cases h2 : k = j <;> simp_all

def mkv : Option (Nat × Nat) → Nat → Value
  | some (n, c), g => .slice (some ⟨g, 0, none⟩) n c
  | none, g => .pointer (some ⟨g, 0, none⟩)

def settle (P : Program) (K : Value → World → Prop) : Result Next → Prop
  | .ok (.value u) w => K u w
  | .ok .skip w => K undef w
  | .ok (.enter f args) w => Calls P f args w fun e w2 => ∃ v, e = .returned v ∧ K v w2
  | _ => False

section
variable (P : Program) (ops : Array Oper) (p : Plan)

def Known (o : Oper) (Γ : Facts) (w : World) : Prop := Chg p.T p.w0 w ∧ ∀ i, usable ops o i = true → Γ i w
def PureAt (o : Oper) (a : Act) (Γ : Facts) (f : Value) : Prop := ∀ w, Known ops p o Γ w → (execOp a.eval o).run P w = .ok (.value f) w
def MinAt (o : Oper) (a : Act) (Γ : Facts) (ob : Obj) (kd : Option (Nat × Nat)) : Prop := ∀ w, Known ops p o Γ w → (execOp a.eval o).run P w = .ok (.value (mkv kd w.heap.size)) (w.alloc ob)
def Stable (F : World → Prop) : Prop := ∀ w w2, Chg p.T p.w0 w → Chg p.T w w2 → F w → F w2
def MajAt (k : Nat) (o : Oper) (vs : List Value) (S : World → Prop) (a : Act) (Γ : Facts) : Prop :=
  (∃ v, p.shape k vs v) ∧ (∀ v, Stable p (p.keep k vs v)) ∧ (∀ v w ob, p.post k vs v w → p.post k vs v (w.alloc ob)) ∧
  ∀ w, Known ops p o Γ w → S w → settle P (fun v w2 => p.shape k vs v ∧ Chg p.T w w2 ∧ p.post k vs v w2 ∧ p.keep k vs v w2) ((execOp a.eval o).run P w)
def Laid (g : Nat) (ob : Obj) (w : World) : Prop := p.w0.heap.size ≤ g ∧ w.heap[g]? = some ob

def Step (k : Nat) (K : List Value → (World → Prop) → Facts → Act → Prop) (vs : List Value) (S : World → Prop) (Γ : Facts) (a : Act) : Prop :=
  match ops[k]? with
  | none => False
  | some o =>
    if Region.wanted o (yielded ops a.tmps) = true then
      if p.majs.contains k then MajAt P ops p k o vs S a Γ ∧ ∀ v, p.shape k vs v → K (vs ++ [v]) (p.post k vs v) (Γ.set k (p.keep k vs v)) (a.put o.dst v)
      else if p.mins.contains k then ∃ ob kd, MinAt P ops p o a Γ ob kd ∧ ∀ g, K vs S (Γ.set k (Laid p g ob)) (a.put o.dst (mkv kd g))
      else ∃ f, PureAt P ops p o a Γ f ∧ K vs S Γ (a.put o.dst f)
    else K vs S Γ (a.put o.dst undef)

/-- The walk of the operations that are left, in the order of the text. -/
def wpR (Q : Act → World → Prop) : List Nat → List Value → (World → Prop) → Facts → Act → Prop
  | [], _, S, Γ, a => ∀ w, Chg p.T p.w0 w → S w → (∀ i, Γ i w) → Q a w
  | k :: l, vs, S, Γ, a => if k = p.tl then (∀ w, Chg p.T p.w0 w → S w → (∀ i, Γ i w) → p.E a w) else Step P ops p k (wpR Q l) vs S Γ a

def reach : Nat → Nat → Nat → Bool
  | 0, _, _ => false
  | f + 1, k, i => match ops[i]? with
    | some o => o.after.any fun e => Region.binds .any e && (e.on == k || reach f k e.on)
    | none => false
def backB : Bool := (List.range ops.size).all fun i => match ops[i]? with | some o => o.after.all (fun e => !Region.binds .any e || decide (e.on < i)) | none => true
def pairB (majs : List Nat) (d : Nat) : Bool := (List.range ops.size).all fun i => (List.range i).all fun k => reach ops d k i || (match ops[k]?, ops[i]? with
  | some x, some y => x.apart ops y && y.apart ops x && !(majs.contains k && majs.contains i)
  | _, _ => false)
/-- From the operation 'tl' on each waits for all ahead of it. -/
def tailB (tl d : Nat) : Bool := (List.range ops.size).all fun i => decide (i < tl) || (List.range i).all fun k => reach ops d k i
def okB (majs : List Nat) (d : Nat) : Bool := Region.noSelect ops && backB ops && pairB ops majs d
end

section
variable {P : Program} {ops : Array Oper} {p : Plan}

theorem usable_apart {x y : Oper} {k : Nat} (hk : ops[k]? = some x) (h : x.apart ops y = true) : usable ops y k = false := by
  unfold usable
  rw [hk]
  cases hd : x.dst with
  | none => simp only [hd]
  | some d =>
    have := (Oper.apart_spec h).1 d hd
    simp only [hd]
    simpa using this
theorem Known.set {x y : Oper} {k : Nat} {Γ : Facts} {w : World} {F : World → Prop} (hk : ops[k]? = some x) (h : x.apart ops y = true) : Known ops p y (Γ.set k F) w ↔ Known ops p y Γ w := by
  unfold Known
  refine and_congr_right fun _ => forall_congr' fun i => ?_
  by_cases hi : i = k
  · subst hi
    rw [usable_apart hk h]; simp
  · rw [Facts.set_other hi]

theorem Step.mono {k : Nat} {K K2 : List Value → (World → Prop) → Facts → Act → Prop} {vs : List Value} {S : World → Prop} {Γ : Facts} {a : Act} (hK : ∀ vs S Γ2 a, (Γ2 = Γ ∨ ∃ F, Γ2 = Γ.set k F) → K vs S Γ2 a → K2 vs S Γ2 a) (h : Step P ops p k K vs S Γ a) : Step P ops p k K2 vs S Γ a := by
  unfold Step at *
  split at h
  · exact h
  · split at h
    · split at h
      · rename_i hw hm
        simp only [hw, hm, if_true]
        exact ⟨h.1, fun v hv => hK _ _ _ _ (.inr ⟨_, rfl⟩) (h.2 v hv)⟩
      · split at h
        · rename_i hw hm hn
          simp only [hw, if_true, hn, if_neg hm]
          obtain ⟨ob, kd, h1, h2⟩ := h
          exact ⟨ob, kd, h1, fun g => hK _ _ _ _ (.inr ⟨_, rfl⟩) (h2 g)⟩
        · rename_i hw hm hn
          simp only [hw, if_true, if_neg hm, if_neg hn]
          obtain ⟨f, h1, h2⟩ := h
          exact ⟨f, h1, hK _ _ _ _ (.inl rfl) h2⟩
    · rename_i hw
      rw [if_neg hw]
      exact hK _ _ _ _ (.inl rfl) h

/-- The four ways of an operation, told apart. -/
theorem Step.pass {k : Nat} {o : Oper} {K : List Value → (World → Prop) → Facts → Act → Prop} {vs : List Value} {S : World → Prop} {Γ : Facts} {a : Act} (ho : ops[k]? = some o) (hw : Region.wanted o (yielded ops a.tmps) = false) :
    Step P ops p k K vs S Γ a = K vs S Γ (a.put o.dst undef) := by simp [Step, ho, hw]
theorem Step.major {k : Nat} {o : Oper} {K : List Value → (World → Prop) → Facts → Act → Prop} {vs : List Value} {S : World → Prop} {Γ : Facts} {a : Act} (ho : ops[k]? = some o) (hw : Region.wanted o (yielded ops a.tmps) = true) (hm : p.majs.contains k = true) :
    Step P ops p k K vs S Γ a = (MajAt P ops p k o vs S a Γ ∧ ∀ v, p.shape k vs v → K (vs ++ [v]) (p.post k vs v) (Γ.set k (p.keep k vs v)) (a.put o.dst v)) := by simp only [Step, ho, hw, hm, if_true]
theorem Step.minor {k : Nat} {o : Oper} {K : List Value → (World → Prop) → Facts → Act → Prop} {vs : List Value} {S : World → Prop} {Γ : Facts} {a : Act} (ho : ops[k]? = some o) (hw : Region.wanted o (yielded ops a.tmps) = true) (hm : p.majs.contains k = false) (hn : p.mins.contains k = true) :
    Step P ops p k K vs S Γ a = ∃ ob kd, MinAt P ops p o a Γ ob kd ∧ ∀ g, K vs S (Γ.set k (Laid p g ob)) (a.put o.dst (mkv kd g)) := by simp only [Step, ho, hw, hm, hn, if_true, Bool.false_eq_true, if_false]
theorem Step.plain {k : Nat} {o : Oper} {K : List Value → (World → Prop) → Facts → Act → Prop} {vs : List Value} {S : World → Prop} {Γ : Facts} {a : Act} (ho : ops[k]? = some o) (hw : Region.wanted o (yielded ops a.tmps) = true) (hm : p.majs.contains k = false) (hn : p.mins.contains k = false) :
    Step P ops p k K vs S Γ a = ∃ f, PureAt P ops p o a Γ f ∧ K vs S Γ (a.put o.dst f) := by simp only [Step, ho, hw, hm, hn, if_true, Bool.false_eq_true, if_false]

theorem mkv_inj {kd kd2 : Option (Nat × Nat)} {g : Nat} (h : mkv kd g = mkv kd2 g) : kd = kd2 := by
  cases kd <;> cases kd2 <;> simp_all [mkv]
  rename_i x y
  obtain ⟨x1, x2⟩ := x
  obtain ⟨y1, y2⟩ := y
  simp_all
theorem alloc_inj {w : World} {ob ob2 : Obj} (h : w.alloc ob = w.alloc ob2) : ob = ob2 := by
  have : (w.alloc ob).heap[w.heap.size]? = (w.alloc ob2).heap[w.heap.size]? := by rw [h]
  rw [heap_alloc_new, heap_alloc_new] at this
  injection this

/-- Two operations that are apart, of which not both change the world, may change places: asked where the world is one in which the second may come up. -/
theorem Step.swap {i k : Nat} {oi ok : Oper} (hi : ops[i]? = some oi) (hk : ops[k]? = some ok) (hik : i ≠ k) (h1 : ok.apart ops oi = true) (h2 : oi.apart ops ok = true) (hs : Region.noSelect ops = true)
    (hmm : ¬ (p.majs.contains k = true ∧ p.majs.contains i = true)) {K : List Value → (World → Prop) → Facts → Act → Prop} {vs : List Value} {S : World → Prop} {Γ : Facts} {a : Act} {w : World} (hw : Known ops p oi Γ w)
    (h : Step P ops p k (Step P ops p i K) vs S Γ a) : Step P ops p i (Step P ops p k K) vs S Γ a := by
  have hsi := fun cs b => Region.noSelect_spec hs i oi cs b hi
  have hsk := fun cs b => Region.noSelect_spec hs k ok cs b hk
  have ek : ∀ (a : Act) v, execOp (a.put oi.dst v).eval ok = execOp a.eval ok := fun a v => execOp_put (ops := ops) ok hsk a oi.dst v (Oper.apart_spec h2).1
  have ei : ∀ (a : Act) v, execOp (a.put ok.dst v).eval oi = execOp a.eval oi := fun a v => execOp_put (ops := ops) oi hsi a ok.dst v (Oper.apart_spec h1).1
  have wk : ∀ (a : Act) v, Region.wanted ok (yielded ops (a.put oi.dst v).tmps) = Region.wanted ok (yielded ops a.tmps) := fun a v => wanted_put ok a oi.dst v (Oper.apart_spec h2).1
  have wi : ∀ (a : Act) v, Region.wanted oi (yielded ops (a.put ok.dst v).tmps) = Region.wanted oi (yielded ops a.tmps) := fun a v => wanted_put oi a ok.dst v (Oper.apart_spec h1).1
  have pc : ∀ (a : Act) u v, (a.put ok.dst u).put oi.dst v = (a.put oi.dst v).put ok.dst u := fun a u v => Act.put_comm a u v (Oper.apart_spec h1).2.1
  have kI : ∀ {F : World → Prop} {w : World}, Known ops p oi (Γ.set k F) w ↔ Known ops p oi Γ w := Known.set hk h1
  have kK : ∀ {F : World → Prop} {w : World}, Known ops p ok (Γ.set i F) w ↔ Known ops p ok Γ w := Known.set hi h2
  cases hwk : Region.wanted ok (yielded ops a.tmps) with
  | false =>
    rw [Step.pass hk hwk] at h
    cases hwi : Region.wanted oi (yielded ops a.tmps) with
    | false =>
      rw [Step.pass hi (by rw [wi]; exact hwi)] at h
      rw [Step.pass hi hwi, Step.pass hk (by rw [wk]; exact hwk), ← pc]
      exact h
    | true =>
      cases hm : p.majs.contains i with
      | true =>
        rw [Step.major hi (by rw [wi]; exact hwi) hm] at h
        rw [Step.major hi hwi hm]
        refine ⟨?_, fun v hv => ?_⟩
        · unfold MajAt at *; rw [← ei a undef]; exact h.1
        · rw [Step.pass hk (by rw [wk]; exact hwk), ← pc]; exact h.2 v hv
      | false =>
        cases hn : p.mins.contains i with
        | true =>
          rw [Step.minor hi (by rw [wi]; exact hwi) hm hn] at h
          rw [Step.minor hi hwi hm hn]
          obtain ⟨ob, kd, h3, h4⟩ := h
          refine ⟨ob, kd, ?_, fun g => ?_⟩
          · unfold MinAt at *; rw [← ei a undef]; exact h3
          · rw [Step.pass hk (by rw [wk]; exact hwk), ← pc]; exact h4 g
        | false =>
          rw [Step.plain hi (by rw [wi]; exact hwi) hm hn] at h
          rw [Step.plain hi hwi hm hn]
          obtain ⟨f, h3, h4⟩ := h
          refine ⟨f, ?_, ?_⟩
          · unfold PureAt at *; rw [← ei a undef]; exact h3
          · rw [Step.pass hk (by rw [wk]; exact hwk), ← pc]; exact h4
  | true =>
    cases hmk : p.majs.contains k with
    | true =>
      have hmi : p.majs.contains i = false := by
        cases hmi : p.majs.contains i with
        | true => exact absurd ⟨hmk, hmi⟩ hmm
        | false => rfl
      rw [Step.major hk hwk hmk] at h
      obtain ⟨h3, h4⟩ := h
      obtain ⟨v0, hv0⟩ := h3.1
      have hMaj : ∀ (b : Act) (Γ2 : Facts), (∀ w, Known ops p ok Γ2 w ↔ Known ops p ok Γ w) → execOp b.eval ok = execOp a.eval ok → MajAt P ops p k ok vs S b Γ2 := by
        intro b Γ2 e1 e2
        unfold MajAt at *
        rw [e2]
        exact ⟨h3.1, h3.2.1, h3.2.2.1, fun w hw => h3.2.2.2 w ((e1 w).1 hw)⟩
      cases hwi : Region.wanted oi (yielded ops a.tmps) with
      | false =>
        rw [Step.pass hi hwi, Step.major hk (by rw [wk]; exact hwk) hmk]
        refine ⟨hMaj _ _ (fun _ => Iff.rfl) (ek a undef), fun v hv => ?_⟩
        have := h4 v hv
        rw [Step.pass hi (by rw [wi]; exact hwi), pc] at this
        exact this
      | true =>
        cases hn : p.mins.contains i with
        | true =>
          rw [Step.minor hi hwi hmi hn]
          have h5 := h4 v0 hv0
          rw [Step.minor hi (by rw [wi]; exact hwi) hmi hn] at h5
          obtain ⟨ob, kd, h6, _⟩ := h5
          have h7 : MinAt P ops p oi a Γ ob kd := fun w hw => by rw [← ei a v0]; exact h6 w (kI.2 hw)
          refine ⟨ob, kd, h7, fun g => ?_⟩
          rw [Step.major hk (by rw [wk]; exact hwk) hmk]
          refine ⟨hMaj _ _ (fun _ => kK) (ek a _), fun v hv => ?_⟩
          have h8 := h4 v hv
          rw [Step.minor hi (by rw [wi]; exact hwi) hmi hn] at h8
          obtain ⟨ob2, kd2, h9, h10⟩ := h8
          have e1 := h9 w (kI.2 hw)
          rw [ei, h7 w hw] at e1
          simp only [Result.ok.injEq, Next.value.injEq] at e1
          have e2 := mkv_inj e1.1
          have e3 := alloc_inj e1.2
          subst e2 e3
          rw [Facts.set_comm _ _ _ hik, ← pc]
          exact h10 g
        | false =>
          rw [Step.plain hi hwi hmi hn]
          have h5 := h4 v0 hv0
          rw [Step.plain hi (by rw [wi]; exact hwi) hmi hn] at h5
          obtain ⟨f, h6, _⟩ := h5
          have h7 : PureAt P ops p oi a Γ f := fun w hw => by rw [← ei a v0]; exact h6 w (kI.2 hw)
          refine ⟨f, h7, ?_⟩
          rw [Step.major hk (by rw [wk]; exact hwk) hmk]
          refine ⟨hMaj _ _ (fun _ => Iff.rfl) (ek a _), fun v hv => ?_⟩
          have h8 := h4 v hv
          rw [Step.plain hi (by rw [wi]; exact hwi) hmi hn] at h8
          obtain ⟨f2, h9, h10⟩ := h8
          have e1 := h9 w (kI.2 hw)
          rw [ei, h7 w hw] at e1
          simp only [Result.ok.injEq, Next.value.injEq] at e1
          rw [e1.1, ← pc]
          exact h10
    | false =>
      cases hnk : p.mins.contains k with
      | true =>
        rw [Step.minor hk hwk hmk hnk] at h
        obtain ⟨obk, kdk, h3, h4⟩ := h
        have hMin : ∀ (b : Act) (Γ2 : Facts), (∀ w, Known ops p ok Γ2 w ↔ Known ops p ok Γ w) → execOp b.eval ok = execOp a.eval ok → MinAt P ops p ok b Γ2 obk kdk := by
          intro b Γ2 e1 e2 w hw
          rw [e2]
          exact h3 w ((e1 w).1 hw)
        cases hwi : Region.wanted oi (yielded ops a.tmps) with
        | false =>
          rw [Step.pass hi hwi, Step.minor hk (by rw [wk]; exact hwk) hmk hnk]
          refine ⟨obk, kdk, hMin _ _ (fun _ => Iff.rfl) (ek a undef), fun g => ?_⟩
          have := h4 g
          rw [Step.pass hi (by rw [wi]; exact hwi), pc] at this
          exact this
        | true =>
          cases hm : p.majs.contains i with
          | true =>
            rw [Step.major hi hwi hm]
            have h5 := h4 0
            rw [Step.major hi (by rw [wi]; exact hwi) hm] at h5
            have h6 := h5.1
            refine ⟨⟨h6.1, h6.2.1, h6.2.2.1, fun w hw => by rw [← ei a (mkv kdk 0)]; exact h6.2.2.2 w (kI.2 hw)⟩, fun v hv => ?_⟩
            rw [Step.minor hk (by rw [wk]; exact hwk) hmk hnk]
            refine ⟨obk, kdk, hMin _ _ (fun _ => kK) (ek a _), fun g => ?_⟩
            have h8 := h4 g
            rw [Step.major hi (by rw [wi]; exact hwi) hm] at h8
            rw [Facts.set_comm _ _ _ hik, ← pc]
            exact h8.2 v hv
          | false =>
            cases hn : p.mins.contains i with
            | true =>
              rw [Step.minor hi hwi hm hn]
              have h5 := h4 0
              rw [Step.minor hi (by rw [wi]; exact hwi) hm hn] at h5
              obtain ⟨ob, kd, h6, _⟩ := h5
              have h7 : MinAt P ops p oi a Γ ob kd := fun w hw => by rw [← ei a (mkv kdk 0)]; exact h6 w (kI.2 hw)
              refine ⟨ob, kd, h7, fun g => ?_⟩
              rw [Step.minor hk (by rw [wk]; exact hwk) hmk hnk]
              refine ⟨obk, kdk, hMin _ _ (fun _ => kK) (ek a _), fun g2 => ?_⟩
              have h8 := h4 g2
              rw [Step.minor hi (by rw [wi]; exact hwi) hm hn] at h8
              obtain ⟨ob2, kd2, h9, h10⟩ := h8
              have e1 := h9 w (kI.2 hw)
              rw [ei, h7 w hw] at e1
              simp only [Result.ok.injEq, Next.value.injEq] at e1
              have e2 := mkv_inj e1.1
              have e3 := alloc_inj e1.2
              subst e2 e3
              rw [Facts.set_comm _ _ _ hik, ← pc]
              exact h10 g
            | false =>
              rw [Step.plain hi hwi hm hn]
              have h5 := h4 0
              rw [Step.plain hi (by rw [wi]; exact hwi) hm hn] at h5
              obtain ⟨f, h6, _⟩ := h5
              have h7 : PureAt P ops p oi a Γ f := fun w hw => by rw [← ei a (mkv kdk 0)]; exact h6 w (kI.2 hw)
              refine ⟨f, h7, ?_⟩
              rw [Step.minor hk (by rw [wk]; exact hwk) hmk hnk]
              refine ⟨obk, kdk, hMin _ _ (fun _ => Iff.rfl) (ek a _), fun g2 => ?_⟩
              have h8 := h4 g2
              rw [Step.plain hi (by rw [wi]; exact hwi) hm hn] at h8
              obtain ⟨f2, h9, h10⟩ := h8
              have e1 := h9 w (kI.2 hw)
              rw [ei, h7 w hw] at e1
              simp only [Result.ok.injEq, Next.value.injEq] at e1
              rw [e1.1, ← pc]
              exact h10
      | false =>
        rw [Step.plain hk hwk hmk hnk] at h
        obtain ⟨fk, h3, h4⟩ := h
        have hPure : ∀ (b : Act) (Γ2 : Facts), (∀ w, Known ops p ok Γ2 w ↔ Known ops p ok Γ w) → execOp b.eval ok = execOp a.eval ok → PureAt P ops p ok b Γ2 fk := by
          intro b Γ2 e1 e2 w hw
          rw [e2]
          exact h3 w ((e1 w).1 hw)
        cases hwi : Region.wanted oi (yielded ops a.tmps) with
        | false =>
          rw [Step.pass hi hwi, Step.plain hk (by rw [wk]; exact hwk) hmk hnk]
          refine ⟨fk, hPure _ _ (fun _ => Iff.rfl) (ek a undef), ?_⟩
          rw [Step.pass hi (by rw [wi]; exact hwi), pc] at h4
          exact h4
        | true =>
          cases hm : p.majs.contains i with
          | true =>
            rw [Step.major hi hwi hm]
            rw [Step.major hi (by rw [wi]; exact hwi) hm] at h4
            have h6 := h4.1
            refine ⟨⟨h6.1, h6.2.1, h6.2.2.1, fun w hw => by rw [← ei a fk]; exact h6.2.2.2 w hw⟩, fun v hv => ?_⟩
            rw [Step.plain hk (by rw [wk]; exact hwk) hmk hnk]
            refine ⟨fk, hPure _ _ (fun _ => kK) (ek a _), ?_⟩
            rw [← pc]
            exact h4.2 v hv
          | false =>
            cases hn : p.mins.contains i with
            | true =>
              rw [Step.minor hi hwi hm hn]
              rw [Step.minor hi (by rw [wi]; exact hwi) hm hn] at h4
              obtain ⟨ob, kd, h6, h7⟩ := h4
              refine ⟨ob, kd, fun w hw => by rw [← ei a fk]; exact h6 w hw, fun g => ?_⟩
              rw [Step.plain hk (by rw [wk]; exact hwk) hmk hnk]
              refine ⟨fk, hPure _ _ (fun _ => kK) (ek a _), ?_⟩
              rw [← pc]
              exact h7 g
            | false =>
              rw [Step.plain hi hwi hm hn]
              rw [Step.plain hi (by rw [wi]; exact hwi) hm hn] at h4
              obtain ⟨f, h6, h7⟩ := h4
              refine ⟨f, fun w hw => by rw [← ei a fk]; exact h6 w hw, ?_⟩
              rw [Step.plain hk (by rw [wk]; exact hwk) hmk hnk]
              refine ⟨fk, hPure _ _ (fun _ => Iff.rfl) (ek a _), ?_⟩
              rw [← pc]
              exact h7

/-- An operation that may come up now comes to the front of the walk. -/
theorem wpR_front {Q : Act → World → Prop} {i : Nat} {oi : Oper} {l : List Nat} {w : World} (hi : ops[i]? = some oi) (hs : Region.noSelect ops = true) :
    ∀ (pre : List Nat) (vs : List Value) (S : World → Prop) (Γ : Facts) (a : Act),
      (∀ k ∈ pre, i ≠ k ∧ k ≠ p.tl ∧ ∃ ok, ops[k]? = some ok ∧ ok.apart ops oi = true ∧ oi.apart ops ok = true ∧ ¬ (p.majs.contains k = true ∧ p.majs.contains i = true)) →
      i ≠ p.tl → Known ops p oi Γ w → wpR P ops p Q (pre ++ i :: l) vs S Γ a → Step P ops p i (wpR P ops p Q (pre ++ l)) vs S Γ a
  | [], _, _, _, _, _, hit, _, h => by
    simp only [List.nil_append, wpR, if_neg hit] at h
    exact h
  | k :: pre, vs, S, Γ, a, hp, hit, hw, h => by
    obtain ⟨hne, hkt, ok, hk, h1, h2, hm⟩ := hp k (by simp)
    simp only [List.cons_append, wpR, if_neg hkt] at h ⊢
    refine Step.swap hi hk hne h1 h2 hs hm hw (Step.mono (fun vs S Γ2 a hΓ hK => ?_) h)
    have hw2 : Known ops p oi Γ2 w := by
      rcases hΓ with rfl | ⟨F, rfl⟩
      · exact hw
      · exact (Known.set hk h1).2 hw
    exact wpR_front hi hs pre vs S Γ2 a (fun j hj => hp j (by simp [hj])) hit hw2 hK

theorem reach_listed {listed : Array Bool} (hcl : ∀ (j : Nat) (o : Oper), ops[j]? = some o → listed.getD j false = true → ∀ e ∈ o.after, Region.binds .any e = true → listed.getD e.on false = true) :
    ∀ (f k i : Nat), listed.getD i false = true → reach ops f k i = true → listed.getD k false = true
  | 0, _, _, _, h => by simp [reach] at h
  | f + 1, k, i, hi, h => by
    unfold reach at h
    split at h
    · rename_i o ho
      obtain ⟨e, he, hb⟩ := Array.any_eq_true'.1 h
      simp only [Bool.and_eq_true, Bool.or_eq_true, beq_iff_eq] at hb
      have h1 := hcl i o ho hi e he hb.1
      rcases hb.2 with h2 | h2
      · rw [← h2]; exact h1
      · exact reach_listed hcl f k e.on h1 h2
    · cases h

theorem list_set {listed : Array Bool} {i j : Nat} (hi : i < listed.size) : (listed.setIfInBounds i true).getD j false = (if j = i then true else listed.getD j false) := by
  by_cases h : j = i
  · subst h
    simp [hi]
  · rw [if_neg h, getD_set_ne false (Ne.symm h)]

theorem range_filter_split {l : List Nat} {i : Nat} (hl : l.Pairwise (· < ·)) (hi : i ∈ l) : ∃ pre post, l = pre ++ i :: post ∧ (∀ k ∈ pre, k < i) ∧ (pre ++ post).Pairwise (· < ·) ∧ (∀ j, j ∈ pre ++ post ↔ j ∈ l ∧ j ≠ i) := by
  obtain ⟨pre, post, rfl⟩ := List.append_of_mem hi
  rw [List.pairwise_append, List.pairwise_cons] at hl
  obtain ⟨h1, ⟨h2, h3⟩, h4⟩ := hl
  refine ⟨pre, post, rfl, fun k hk => h4 k hk i (by simp), ?_, fun j => ?_⟩
  · rw [List.pairwise_append]
    exact ⟨h1, h3, fun x hx y hy => h4 x hx y (by simp [hy])⟩
  · simp only [List.mem_append, List.mem_cons]
    constructor
    · rintro (hj | hj)
      · have := h4 j hj i (by simp)
        exact ⟨.inl hj, by omega⟩
      · have := h2 j hj
        exact ⟨.inr (.inr hj), by omega⟩
    · rintro ⟨hj | hj | hj, hne⟩
      · exact .inl hj
      · exact absurd hj hne
      · exact .inr hj

theorem wpAny_of_tail {Q : Exit → Act → World → Prop} {d tl : Nat} (hback : backB ops = true) (ht : tailB ops tl d = true) :
    ∀ (fuel k : Nat) (listed : Array Bool) (a : Act) (w : World), listed.size = ops.size → (∀ j, j < ops.size → (listed.getD j false = false ↔ k ≤ j)) → ops.size - k ≤ fuel →
      (∀ (j : Nat) (o : Oper), ops[j]? = some o → listed.getD j false = true → ∀ e ∈ o.after, Region.binds .any e = true → listed.getD e.on false = true) → tl ≤ k →
      wpOps P ops Q (List.range' k (ops.size - k)) a w → wpAny P .any ops Q fuel listed a w := by
  have trueOf : ∀ {listed : Array Bool} {j : Nat}, listed.size = ops.size → j < ops.size → listed.getD j true = listed.getD j false := by
    intro listed j h1 h2
    simp [show j < listed.size by omega]
  intro fuel
  induction fuel with
  | zero =>
    intro k listed a w hsz hl hlen hcl htk h
    have h0 : ops.size - k = 0 := by omega
    rw [h0] at h
    refine ⟨?_, h⟩
    cases hr : Region.ready .any ops listed with
    | nil => rfl
    | cons j rs =>
      exfalso
      have hj : j ∈ Region.ready .any ops listed := by rw [hr]; simp
      rw [mem_ready] at hj
      obtain ⟨h1, o, ho, _⟩ := hj
      have hlt := (Array.getElem?_eq_some_iff.1 ho).1
      rw [trueOf hsz hlt] at h1
      have := (hl j hlt).1 h1
      omega
  | succ fuel ih =>
    intro k listed a w hsz hl hlen hcl htk h
    refine ⟨fun hr => ?_, fun i hi => ?_⟩
    · rcases Nat.lt_or_ge k ops.size with hk | hk
      · exfalso
        have hmem : k ∈ Region.ready .any ops listed := by
          rw [mem_ready]
          refine ⟨by rw [trueOf hsz hk]; exact (hl k hk).2 (Nat.le_refl _), ops[k], Array.getElem?_eq_getElem hk, fun e he hb => ?_⟩
          have hlt : e.on < k := by
            have := (List.all_eq_true.1 hback) k (List.mem_range.2 hk)
            rw [Array.getElem?_eq_getElem hk] at this
            have := Array.all_eq_true_iff_forall_mem.1 this e he
            simpa [hb] using this
          cases hx : listed.getD e.on false with
          | true => rfl
          | false =>
            have := (hl e.on (by omega)).1 hx
            omega
        rw [hr] at hmem
        cases hmem
      · rw [show ops.size - k = 0 by omega] at h
        exact h
    · rw [mem_ready] at hi
      obtain ⟨h0, oi, hoi, hall⟩ := hi
      have hlt := (Array.getElem?_eq_some_iff.1 hoi).1
      rw [trueOf hsz hlt] at h0
      have hki := (hl i hlt).1 h0
      have hik : i = k := by
        rcases Nat.lt_or_ge k i with hlt2 | hge
        · exfalso
          have h1 := (List.all_eq_true.1 ht) i (List.mem_range.2 hlt)
          rw [Bool.or_eq_true] at h1
          rcases h1 with h1 | h1
          · have := of_decide_eq_true h1; omega
          · have h2 := (List.all_eq_true.1 h1) k (List.mem_range.2 hlt2)
            cases d with
            | zero => simp [reach] at h2
            | succ d =>
              unfold reach at h2
              rw [hoi] at h2
              simp only at h2
              obtain ⟨e, he, hb⟩ := Array.any_eq_true'.1 h2
              simp only [Bool.and_eq_true, Bool.or_eq_true, beq_iff_eq] at hb
              have h3 := hall e he hb.1
              have h4 := (hl k (by omega)).2 (Nat.le_refl _)
              rcases hb.2 with h5 | h5
              · rw [h5, h4] at h3; cases h3
              · have := reach_listed hcl d k e.on h3 h5
                rw [h4] at this; cases this
        · omega
      subst hik
      have hr : List.range' i (ops.size - i) = i :: List.range' (i + 1) (ops.size - (i + 1)) := by
        rw [show ops.size - i = (ops.size - (i + 1)) + 1 by omega, List.range'_succ]
      rw [hr, wpOps_cons] at h
      refine wpOp_mono (fun a w hh => ih (i + 1) _ a w (by simpa using hsz) (fun j hj => ?_) (by omega) ?_ (by omega) hh) h
      · rw [list_set (by omega)]
        by_cases hji : j = i
        · subst hji; simp
        · rw [if_neg hji, hl j hj]; omega
      · intro j o ho hj e he hb
        rw [list_set (by omega)]
        split
        · rfl
        · rw [list_set (by omega)] at hj
          split at hj
          · rename_i hji
            subst hji
            rw [hoi] at ho
            injection ho with ho
            subst ho
            exact hall e he hb
          · exact hcl j o ho hj e he hb

theorem wpAny_of_R {Q : Exit → Act → World → Prop} {d : Nat} (hok : okB ops p.majs d = true) (ht : tailB ops p.tl d = true) (hE : ∀ a w, p.E a w → wpOps P ops Q (List.range' p.tl (ops.size - p.tl)) a w) (hT : ∀ b, p.T b → b < p.w0.heap.size) :
    ∀ (fuel : Nat) (listed : Array Bool) (l : List Nat) (vs : List Value) (S : World → Prop) (Γ : Facts) (a : Act) (w : World),
      listed.size = ops.size → (∀ j, j ∈ l ↔ j < ops.size ∧ listed.getD j false = false) → l.Pairwise (· < ·) → l.length ≤ fuel →
      (∀ (j : Nat) (o : Oper), ops[j]? = some o → listed.getD j false = true → ∀ e ∈ o.after, Region.binds .any e = true → listed.getD e.on false = true) →
      (p.tl < ops.size → p.tl ∈ l) → Chg p.T p.w0 w → S w → (∀ w ob, S w → S (w.alloc ob)) → (∀ i, Γ i w) → (∀ i, Stable p (Γ i)) →
      wpR P ops p (fun a w => Q .normal a w) l vs S Γ a → wpAny P .any ops Q fuel listed a w := by
  simp only [okB, Bool.and_eq_true] at hok
  obtain ⟨⟨hs, hback⟩, hpair⟩ := hok
  have trueOf : ∀ {listed : Array Bool} {j : Nat}, listed.size = ops.size → j < ops.size → listed.getD j true = listed.getD j false := by
    intro listed j h1 h2
    simp [show j < listed.size by omega]
  have readyNil : ∀ {listed : Array Bool} {l : List Nat}, listed.size = ops.size → (∀ j, j ∈ l ↔ j < ops.size ∧ listed.getD j false = false) → l.Pairwise (· < ·) → Region.ready .any ops listed = [] → l = [] := by
    intro listed l hsz hl hsort hr
    cases l with
    | nil => rfl
    | cons i l =>
      exfalso
      have hi := (hl i).1 (by simp)
      have hmem : i ∈ Region.ready .any ops listed := by
        rw [mem_ready]
        refine ⟨by rw [trueOf hsz hi.1]; exact hi.2, ops[i], Array.getElem?_eq_getElem hi.1, fun e he hb => ?_⟩
        have hlt : e.on < i := by
          have := (List.all_eq_true.1 hback) i (List.mem_range.2 hi.1)
          rw [Array.getElem?_eq_getElem hi.1] at this
          have := Array.all_eq_true_iff_forall_mem.1 this e he
          simpa [hb] using this
        cases hx : listed.getD e.on false with
        | true => rfl
        | false =>
          have := (hl e.on).2 ⟨by omega, hx⟩
          rcases List.mem_cons.1 this with h | h
          · omega
          · have := (List.pairwise_cons.1 hsort).1 e.on h
            omega
      rw [hr] at hmem
      cases hmem
  intro fuel
  induction fuel with
  | zero =>
    intro listed l vs S Γ a w hsz hl hsort hlen hcl htm hC hS hSa hΓ hΓs h
    have hl0 : l = [] := List.eq_nil_of_length_eq_zero (by omega)
    subst hl0
    refine ⟨?_, h w hC hS hΓ⟩
    cases hr : Region.ready .any ops listed with
    | nil => rfl
    | cons j rs =>
      exfalso
      have hj : j ∈ Region.ready .any ops listed := by rw [hr]; simp
      rw [mem_ready] at hj
      obtain ⟨h0, o, ho, _⟩ := hj
      have hlt := (Array.getElem?_eq_some_iff.1 ho).1
      rw [trueOf hsz hlt] at h0
      have := (hl j).2 ⟨hlt, h0⟩
      cases this
  | succ fuel ih =>
    intro listed l vs S Γ a w hsz hl hsort hlen hcl htm hC hS hSa hΓ hΓs h
    have reached : ∀ (i k : Nat) (oi : Oper), ops[i]? = some oi → (∀ e ∈ oi.after, Region.binds .any e = true → listed.getD e.on false = true) → reach ops d k i = true → listed.getD k false = true := by
      intro i k oi hoi hall h1
      cases d with
      | zero => simp [reach] at h1
      | succ d =>
        unfold reach at h1
        rw [hoi] at h1
        simp only at h1
        obtain ⟨e, he, hb⟩ := Array.any_eq_true'.1 h1
        simp only [Bool.and_eq_true, Bool.or_eq_true, beq_iff_eq] at hb
        have h2 := hall e he hb.1
        rcases hb.2 with h3 | h3
        · rw [← h3]; exact h2
        · exact reach_listed hcl d k e.on h2 h3
    have forced : ∀ (i k : Nat), i < ops.size → p.tl ≤ i → k < i → reach ops d k i = true := by
      intro i k hi h1 h2
      have h3 := (List.all_eq_true.1 ht) i (List.mem_range.2 hi)
      rw [Bool.or_eq_true] at h3
      rcases h3 with h3 | h3
      · have := of_decide_eq_true h3; omega
      · exact (List.all_eq_true.1 h3) k (List.mem_range.2 h2)
    by_cases hhead : ∃ post, l = p.tl :: post
    · obtain ⟨post, rfl⟩ := hhead
      have h1 := (hl p.tl).1 (by simp)
      refine wpAny_of_tail hback ht (fuel + 1) p.tl listed a w hsz (fun j hj => ⟨fun h2 => ?_, fun h2 => ?_⟩) ?_ hcl (Nat.le_refl _) ?_
      · have := (hl j).2 ⟨hj, h2⟩
        rcases List.mem_cons.1 this with h3 | h3
        · omega
        · have := (List.pairwise_cons.1 hsort).1 j h3
          omega
      · rcases Nat.lt_or_ge p.tl j with h3 | h3
        · cases hx : listed.getD j false with
          | false => rfl
          | true =>
            have := reached j p.tl ops[j] (Array.getElem?_eq_getElem hj) (hcl j _ (Array.getElem?_eq_getElem hj) hx) (forced j p.tl hj (by omega) h3)
            rw [h1.2] at this; cases this
        · have : j = p.tl := by omega
          rw [this]; exact h1.2
      · have hsub : List.range' p.tl (ops.size - p.tl) ⊆ p.tl :: post := by
          intro j hj
          rw [List.mem_range'_1] at hj
          refine (hl j).2 ⟨by omega, ?_⟩
          rcases Nat.lt_or_ge p.tl j with h3 | h3
          · cases hx : listed.getD j false with
            | false => rfl
            | true =>
              have hj2 : j < ops.size := by omega
              have := reached j p.tl ops[j] (Array.getElem?_eq_getElem hj2) (hcl j _ (Array.getElem?_eq_getElem hj2) hx) (forced j p.tl hj2 (by omega) h3)
              rw [h1.2] at this; cases this
          · have : j = p.tl := by omega
            rw [this]; exact h1.2
        have := (List.nodup_range' (s := p.tl) (n := ops.size - p.tl)).length_le_of_subset hsub
        rw [List.length_range'] at this
        simp at hlen this ⊢
        omega
      · simp only [wpR, if_true] at h
        exact hE _ _ (h w hC hS hΓ)
    refine ⟨fun hr => ?_, fun i hi => ?_⟩
    · have hl0 := readyNil hsz hl hsort hr
      subst hl0
      exact h w hC hS hΓ
    · rw [mem_ready] at hi
      obtain ⟨h0, oi, hoi, hall⟩ := hi
      have hlt := (Array.getElem?_eq_some_iff.1 hoi).1
      rw [trueOf hsz hlt] at h0
      have him : i ∈ l := (hl i).2 ⟨hlt, h0⟩
      obtain ⟨pre, post, rfl, hpre, hsort2, hmem2⟩ := range_filter_split hsort him
      have hit : i < p.tl := by
        rcases Nat.lt_or_ge i p.tl with h1 | h1
        · exact h1
        · exfalso
          have hun : ∀ k, k < i → listed.getD k false = true := fun k hk => reached i k oi hoi hall (forced i k hlt h1 hk)
          have htlm := (hl p.tl).1 (htm (by omega))
          have hi2 : i = p.tl := by
            rcases Nat.lt_or_ge p.tl i with h2 | h2
            · have := hun _ h2; rw [htlm.2] at this; cases this
            · omega
          have hpre0 : pre = [] := by
            cases pre with
            | nil => rfl
            | cons k pre =>
              have h2 := hun k (hpre k (by simp))
              rw [((hl k).1 (by simp)).2] at h2; cases h2
          subst hpre0 hi2
          exact hhead ⟨post, rfl⟩
      have hcond : ∀ k ∈ pre, i ≠ k ∧ k ≠ p.tl ∧ ∃ ok, ops[k]? = some ok ∧ ok.apart ops oi = true ∧ oi.apart ops ok = true ∧ ¬ (p.majs.contains k = true ∧ p.majs.contains i = true) := by
        intro k hk
        have hki := hpre k hk
        have hkl := (hl k).1 (by simp [hk])
        refine ⟨by omega, by omega, ops[k], Array.getElem?_eq_getElem hkl.1, ?_⟩
        have h1 := (List.all_eq_true.1 ((List.all_eq_true.1 hpair) i (List.mem_range.2 hlt))) k (List.mem_range.2 hki)
        rw [Bool.or_eq_true] at h1
        rcases h1 with h1 | h1
        · exfalso
          cases d with
          | zero => simp [reach] at h1
          | succ d =>
            unfold reach at h1
            rw [hoi] at h1
            simp only at h1
            obtain ⟨e, he, hb⟩ := Array.any_eq_true'.1 h1
            simp only [Bool.and_eq_true, Bool.or_eq_true, beq_iff_eq] at hb
            have h2 := hall e he hb.1
            rcases hb.2 with h3 | h3
            · rw [h3, hkl.2] at h2; cases h2
            · have := reach_listed hcl d k e.on h2 h3
              rw [hkl.2] at this; cases this
        · rw [Array.getElem?_eq_getElem hkl.1, hoi] at h1
          simp only [Bool.and_eq_true, Bool.not_eq_true', Bool.and_eq_false_iff] at h1
          refine ⟨h1.1.1, h1.1.2, fun ⟨h2, h3⟩ => ?_⟩
          rcases h1.2 with h4 | h4
          · rw [h2] at h4; cases h4
          · rw [h3] at h4; cases h4
      have hkn : Known ops p oi Γ w := ⟨hC, fun j _ => hΓ j⟩
      have hst := wpR_front hoi hs pre vs S Γ a hcond (by omega) hkn h
      have htm2 : p.tl < ops.size → p.tl ∈ pre ++ post := fun h1 => (hmem2 p.tl).2 ⟨htm h1, by omega⟩
      have hsz2 : (listed.setIfInBounds i true).size = ops.size := by simpa using hsz
      have hl2 : ∀ j, j ∈ pre ++ post ↔ j < ops.size ∧ (listed.setIfInBounds i true).getD j false = false := by
        intro j
        rw [hmem2, hl, list_set (by omega)]
        by_cases hji : j = i
        · simp [hji]
        · simp [hji]
      have hlen2 : (pre ++ post).length ≤ fuel := by simp at hlen ⊢; omega
      have hcl2 : ∀ (j : Nat) (o : Oper), ops[j]? = some o → (listed.setIfInBounds i true).getD j false = true → ∀ e ∈ o.after, Region.binds .any e = true → (listed.setIfInBounds i true).getD e.on false = true := by
        intro j o ho hj e he hb
        rw [list_set (by omega)]
        split
        · rfl
        · rw [list_set (by omega)] at hj
          split at hj
          · rename_i hji
            subst hji
            rw [hoi] at ho
            injection ho with ho
            subst ho
            exact hall e he hb
          · exact hcl j o ho hj e he hb
      unfold wpOp
      rw [hoi]
      simp only
      cases hw : Region.wanted oi (yielded ops a.tmps) with
      | false =>
        rw [Step.pass hoi hw] at hst
        simp only [Bool.false_eq_true, if_false]
        exact ih _ _ vs S Γ _ w hsz2 hl2 hsort2 hlen2 hcl2 htm2 hC hS hSa hΓ hΓs hst
      | true =>
        simp only [if_true]
        left
        unfold Oper.wp
        cases hm : p.majs.contains i with
        | true =>
          rw [Step.major hoi hw hm] at hst
          obtain ⟨⟨_, hkeep, hpost, hrun⟩, hgo⟩ := hst
          have h1 := hrun w hkn hS
          have go : ∀ v w2, (p.shape i vs v ∧ Chg p.T w w2 ∧ p.post i vs v w2 ∧ p.keep i vs v w2) → wpAny P .any ops Q fuel (listed.setIfInBounds i true) (a.put oi.dst v) w2 := by
            rintro v w2 ⟨e1, e2, e3, e4⟩
            refine ih _ _ _ _ _ _ w2 hsz2 hl2 hsort2 hlen2 hcl2 htm2 (hC.trans2 e2 fun b hb => .inl hb) e3 (hpost v) (fun j => ?_) (fun j => ?_) (hgo v e1)
            · by_cases hj : j = i
              · subst hj; rw [Facts.set_self]; exact e4
              · rw [Facts.set_other hj]; exact hΓs j w w2 hC e2 (hΓ j)
            · by_cases hj : j = i
              · subst hj; rw [Facts.set_self]; exact hkeep v
              · rw [Facts.set_other hj]; exact hΓs j
          generalize (execOp a.eval oi).run P w = r at h1
          cases r with
          | halt x w2 => exact h1.elim
          | ok n w2 =>
            cases n with
            | value u => exact go u w2 h1
            | skip => exact go undef w2 h1
            | enter f args =>
              refine Calls.mono h1 ?_
              rintro e w3 ⟨v, rfl, h2⟩
              exact go v w3 h2
            | _ => exact h1.elim
        | false =>
          cases hn : p.mins.contains i with
          | true =>
            rw [Step.minor hoi hw hm hn] at hst
            obtain ⟨ob, kd, h1, h2⟩ := hst
            rw [h1 w hkn]
            have e2 : Chg p.T w (w.alloc ob) := (Chg.refl _ w).alloc ob
            refine ih _ _ _ _ _ _ (w.alloc ob) hsz2 hl2 hsort2 hlen2 hcl2 htm2 (hC.alloc ob) (hSa w ob hS) hSa (fun j => ?_) (fun j => ?_) (h2 w.heap.size)
            · by_cases hj : j = i
              · subst hj; rw [Facts.set_self]; exact ⟨hC.size, heap_alloc_new w ob⟩
              · rw [Facts.set_other hj]; exact hΓs j w _ hC e2 (hΓ j)
            · by_cases hj : j = i
              · subst hj
                rw [Facts.set_self]
                rintro w1 w2 _ e4 ⟨e5, e6⟩
                refine ⟨e5, (e4.block _ (Array.getElem?_eq_some_iff.1 e6).1 fun hTg => ?_).trans e6⟩
                have := hT _ hTg
                omega
              · rw [Facts.set_other hj]; exact hΓs j
          | false =>
            rw [Step.plain hoi hw hm hn] at hst
            obtain ⟨f, h1, h2⟩ := hst
            rw [h1 w hkn]
            exact ih _ _ vs S Γ _ w hsz2 hl2 hsort2 hlen2 hcl2 htm2 hC hS hSa hΓ hΓs h2

/-- A region that draws its order, walked in the order of the text. -/
theorem wp_region_R (d : Nat) {id : Nat} {Q : Exit → Act → World → Prop} {a : Act} {w : World} (hm : P.follows .mixedOrders = true) (hok : okB ops p.majs d = true) (ht : tailB ops p.tl d = true) (hE : ∀ a w, p.E a w → wpOps P ops Q (List.range' p.tl (ops.size - p.tl)) a w) (hw : p.w0 = w) (hT : ∀ b, p.T b → b < w.heap.size)
    (S : World → Prop) (hS : S w.drew) (hSa : ∀ w ob, S w → S (w.alloc ob))
    (h : wpR P ops p (fun a w => Q .normal a w) (List.range ops.size) [] S (fun _ _ => True) a) : (Code.region id ops true).wp P Q a w := by
  subst hw
  refine wp_region_any hm (wpAny_of_R hok ht hE hT _ _ (List.range ops.size) [] S _ a _ (by simp) (fun j => ?_) List.pairwise_lt_range (by simp) ?_ (fun h1 => List.mem_range.2 h1) ((Chg.refl _ _).drew) hS hSa (fun _ => trivial) (fun _ _ _ _ _ _ => trivial) h)
  · rw [List.mem_range]
    by_cases hj : j < ops.size <;> simp [hj]
  · intro j o ho hj
    have := (Array.getElem?_eq_some_iff.1 ho).1
    simp [this] at hj
end

section
variable (P : Program) (ops : Array Oper) (p : Plan) (Q : Act → World → Prop)

/-- The walk, over the operations themselves. -/
def wpX : Nat → List Oper → List Value → (World → Prop) → Facts → Act → Prop
  | _, [], _, S, Γ, a => ∀ w, Chg p.T p.w0 w → S w → (∀ i, Γ i w) → Q a w
  | k, o :: R, vs, S, Γ, a =>
    if k = p.tl then (∀ w, Chg p.T p.w0 w → S w → (∀ i, Γ i w) → p.E a w) else
    if Region.wanted o (yielded ops a.tmps) = true then
      if p.majs.contains k then MajAt P ops p k o vs S a Γ ∧ ∀ v, p.shape k vs v → wpX (k + 1) R (vs ++ [v]) (p.post k vs v) (Γ.set k (p.keep k vs v)) (a.put o.dst v)
      else if p.mins.contains k then ∃ ob kd, MinAt P ops p o a Γ ob kd ∧ ∀ g, wpX (k + 1) R vs S (Γ.set k (Laid p g ob)) (a.put o.dst (mkv kd g))
      else ∃ f, PureAt P ops p o a Γ f ∧ wpX (k + 1) R vs S Γ (a.put o.dst f)
    else wpX (k + 1) R vs S Γ (a.put o.dst undef)
end

section
variable {P : Program} {ops : Array Oper} {p : Plan} {Q : Act → World → Prop} {k : Nat} {R : List Oper} {vs : List Value} {S : World → Prop} {Γ : Facts} {a : Act} {o : Oper}

theorem wpR_of_X : ∀ (R : List Oper) (k : Nat) (vs : List Value) (S : World → Prop) (Γ : Facts) (a : Act), (∀ j, R[j]? = ops[k + j]?) → wpX P ops p Q k R vs S Γ a → wpR P ops p Q (List.range' k R.length) vs S Γ a
  | [], _, _, _, _, _, _, h => h
  | o :: R, k, vs, S, Γ, a, hj, h => by
    have ho : ops[k]? = some o := by simpa using (hj 0).symm
    have hj2 : ∀ j, R[j]? = ops[k + 1 + j]? := fun j => by have := hj (j + 1); simpa [Nat.add_assoc, Nat.add_comm 1 j] using this
    have ih := fun vs S Γ a => wpR_of_X R (k + 1) vs S Γ a hj2
    simp only [List.length_cons, List.range'_succ, wpR]
    unfold wpX at h
    by_cases hkt : k = p.tl
    · rw [if_pos hkt] at h ⊢
      exact h
    rw [if_neg hkt] at h ⊢
    unfold Step
    rw [ho]
    simp only
    split at h
    · rename_i hw
      rw [if_pos hw]
      split at h
      · rename_i hm
        rw [if_pos hm]
        exact ⟨h.1, fun v hv => ih _ _ _ _ (h.2 v hv)⟩
      · rename_i hm
        rw [if_neg hm]
        split at h
        · rename_i hn
          rw [if_pos hn]
          obtain ⟨ob, kd, h1, h2⟩ := h
          exact ⟨ob, kd, h1, fun g => ih _ _ _ _ (h2 g)⟩
        · rename_i hn
          rw [if_neg hn]
          obtain ⟨f, h1, h2⟩ := h
          exact ⟨f, h1, ih _ _ _ _ h2⟩
    · rename_i hw
      rw [if_neg hw]
      exact ih _ _ _ _ h

theorem st_pass (hw : Region.wanted o (yielded ops a.tmps) = false) (h : wpX P ops p Q (k + 1) R vs S Γ (a.put o.dst undef)) (ht : (k == p.tl) = false := by rfl) : wpX P ops p Q k (o :: R) vs S Γ a := by
  unfold wpX
  rw [if_neg (by simpa using ht)]
  rw [if_neg (by rw [hw]; exact Bool.false_ne_true)]
  exact h

theorem st_plain (T : Nat → Prop) (w0 : World) (hT : p.T = T) (h0 : p.w0 = w0) {f : Value} (hw : Region.wanted o (yielded ops a.tmps) = true) (hm : p.majs.contains k = false) (hn : p.mins.contains k = false)
    (hp : ∀ w, Chg T w0 w → (∀ i, usable ops o i = true → Γ i w) → (execOp a.eval o).run P w = .ok (.value f) w)
    (h : wpX P ops p Q (k + 1) R vs S Γ (a.put o.dst f)) (ht : (k == p.tl) = false := by rfl) : wpX P ops p Q k (o :: R) vs S Γ a := by
  subst hT h0
  unfold wpX
  rw [if_neg (by simpa using ht)]
  rw [if_pos hw, if_neg (by rw [hm]; exact Bool.false_ne_true), if_neg (by rw [hn]; exact Bool.false_ne_true)]
  exact ⟨f, fun w hk => hp w hk.1 hk.2, h⟩

theorem st_minor (T : Nat → Prop) (w0 : World) (hT : p.T = T) (h0 : p.w0 = w0) {ob : Obj} {kd : Option (Nat × Nat)} (hw : Region.wanted o (yielded ops a.tmps) = true) (hm : p.majs.contains k = false) (hn : p.mins.contains k = true)
    (hp : ∀ w, Chg T w0 w → (∀ i, usable ops o i = true → Γ i w) → (execOp a.eval o).run P w = .ok (.value (mkv kd w.heap.size)) (w.alloc ob))
    (h : ∀ g, wpX P ops p Q (k + 1) R vs S (Γ.set k (fun w => w0.heap.size ≤ g ∧ w.heap[g]? = some ob)) (a.put o.dst (mkv kd g))) (ht : (k == p.tl) = false := by rfl) : wpX P ops p Q k (o :: R) vs S Γ a := by
  subst hT h0
  unfold wpX
  rw [if_neg (by simpa using ht)]
  rw [if_pos hw, if_neg (by rw [hm]; exact Bool.false_ne_true), if_pos hn]
  exact ⟨ob, kd, fun w hk => hp w hk.1 hk.2, h⟩

theorem st_major (T : Nat → Prop) (w0 : World) (hT : p.T = T) (h0 : p.w0 = w0) (hw : Region.wanted o (yielded ops a.tmps) = true) (hm : p.majs.contains k = true)
    (hsh : ∃ v, p.shape k vs v) (hkeep : ∀ v w w2, Chg T w0 w → Chg T w w2 → p.keep k vs v w → p.keep k vs v w2) (hpost : ∀ v w ob, p.post k vs v w → p.post k vs v (w.alloc ob))
    (hp : ∀ w, Chg T w0 w → (∀ i, usable ops o i = true → Γ i w) → S w → settle P (fun v w2 => p.shape k vs v ∧ Chg T w w2 ∧ p.post k vs v w2 ∧ p.keep k vs v w2) ((execOp a.eval o).run P w))
    (h : ∀ v, p.shape k vs v → wpX P ops p Q (k + 1) R (vs ++ [v]) (p.post k vs v) (Γ.set k (p.keep k vs v)) (a.put o.dst v)) (ht : (k == p.tl) = false := by rfl) : wpX P ops p Q k (o :: R) vs S Γ a := by
  subst hT h0
  unfold wpX
  rw [if_neg (by simpa using ht)]
  rw [if_pos hw, if_pos hm]
  exact ⟨⟨hsh, fun v w w2 h1 h2 h3 => hkeep v w w2 h1 h2 h3, hpost, fun w hk hS => hp w hk.1 hk.2 hS⟩, h⟩

theorem st_end (T : Nat → Prop) (w0 : World) (hT : p.T = T) (h0 : p.w0 = w0) (h : ∀ w, Chg T w0 w → S w → (∀ i, Γ i w) → Q a w) : wpX P ops p Q k [] vs S Γ a := by
  subst hT h0
  exact h

/-- The operations from here on wait for all ahead of them: they are walked as a plain list. -/
theorem st_tail (T : Nat → Prop) (w0 : World) (hT : p.T = T) (h0 : p.w0 = w0) (ht : p.tl = k) (h : ∀ w, Chg T w0 w → S w → (∀ i, Γ i w) → p.E a w) : wpX P ops p Q k (o :: R) vs S Γ a := by
  subst hT h0
  unfold wpX
  rw [if_pos ht.symm]
  exact h

theorem tail_none (L : List Oper) (d : Nat) (tl : Nat) (h : L.length ≤ tl) : tailB L.toArray tl d = true := by
  unfold tailB
  rw [List.all_eq_true]
  intro i hi
  have hi := List.mem_range.1 hi
  rw [List.size_toArray] at hi
  simp; left; omega


/-- At the region: its plan. -/
theorem st_region_at (tl : Nat) (d : Nat) (T : Nat → Prop) (majs mins : List Nat) (post keep : Nat → List Value → Value → World → Prop) (shape : Nat → List Value → Value → Prop) (S : World → Prop) {L : List Oper} {w : World} {id : Nat} {Q : Exit → Act → World → Prop}
    (hm : P.follows .mixedOrders = true) (hok : okB L.toArray majs d = true)
    (hT : ∀ b, T b → b < w.heap.size) (hS : S w.drew) (hSa : ∀ w ob, S w → S (w.alloc ob))
    (h : wpX P L.toArray { T := T, w0 := w, majs := majs, mins := mins, post := post, keep := keep, shape := shape, tl := tl, E := fun _ _ => False } (fun a w => Q .normal a w) 0 L [] S (fun _ _ => True) a) (hl : L.length ≤ tl) : (Code.region id L.toArray true).wp P Q a w := by
  refine wp_region_R (p := { T := T, w0 := w, majs := majs, mins := mins, post := post, keep := keep, shape := shape, tl := tl, E := fun _ _ => False }) d hm hok (tail_none L d _ hl) (fun _ _ h => False.elim h) rfl hT S hS hSa ?_
  have := wpR_of_X L 0 [] S (fun _ _ => True) a (by simp) h
  rw [List.range_eq_range']
  simpa using this
theorem st_region (d : Nat) (T : Nat → Prop) (majs mins : List Nat) (post keep : Nat → List Value → Value → World → Prop) (shape : Nat → List Value → Value → Prop) (S : World → Prop) {L : List Oper} {w : World} {id : Nat} {Q : Exit → Act → World → Prop}
    (hm : P.follows .mixedOrders = true) (hok : okB L.toArray majs d = true)
    (hT : ∀ b, T b → b < w.heap.size) (hS : S w.drew) (hSa : ∀ w ob, S w → S (w.alloc ob))
    (h : wpX P L.toArray { T := T, w0 := w, majs := majs, mins := mins, post := post, keep := keep, shape := shape, tl := 9999, E := fun _ _ => False } (fun a w => Q .normal a w) 0 L [] S (fun _ _ => True) a) (hl : Nat.ble L.length 9999 = true := by rfl) : (Code.region id L.toArray true).wp P Q a w :=
  st_region_at 9999 d T majs mins post keep shape S hm hok hT hS hSa h (Nat.le_of_ble_eq_true hl)
/-- The same, and from 'tl' on each operation waits for all ahead of it. -/
theorem st_region_tail (d tl : Nat) (T : Nat → Prop) (majs mins : List Nat) (post keep : Nat → List Value → Value → World → Prop) (shape : Nat → List Value → Value → Prop) (S : World → Prop) {L : List Oper} {w : World} {id : Nat} {Q : Exit → Act → World → Prop}
    (hm : P.follows .mixedOrders = true) (hok : okB L.toArray majs d = true) (ht : tailB L.toArray tl d = true)
    (hT : ∀ b, T b → b < w.heap.size) (hS : S w.drew) (hSa : ∀ w ob, S w → S (w.alloc ob))
    (h : wpX P L.toArray { T := T, w0 := w, majs := majs, mins := mins, post := post, keep := keep, shape := shape, tl := tl, E := wpList P L.toArray Q (L.drop tl) } (fun a w => Q .normal a w) 0 L [] S (fun _ _ => True) a) : (Code.region id L.toArray true).wp P Q a w := by
  refine wp_region_R (p := { T := T, w0 := w, majs := majs, mins := mins, post := post, keep := keep, shape := shape, tl := tl, E := wpList P L.toArray Q (L.drop tl) }) d hm hok ht (fun a w h => ?_) rfl hT S hS hSa ?_
  · have e := wpOps_eq_wpList (P := P) (ops := L.toArray) (Q := Q) (L.drop tl) tl (fun j => by simp)
    rw [List.length_drop] at e
    rw [List.size_toArray, e]
    exact h
  · have := wpR_of_X L 0 [] S (fun _ _ => True) a (by simp) h
    rw [List.range_eq_range']
    simpa using this
end

theorem settle_enter {P : Program} {K : Value → World → Prop} {f : FuncId} {args : Array Value} {w : World} (h : Calls P f args w fun e w2 => ∃ v, e = .returned v ∧ K v w2) : settle P K (.ok (.enter f args) w) := h
theorem settle_value {P : Program} {K : Value → World → Prop} {v : Value} {w : World} (h : K v w) : settle P K (.ok (.value v) w) := h
theorem settle_skip {P : Program} {K : Value → World → Prop} {w : World} (h : K undef w) : settle P K (.ok .skip w) := h
theorem settle_of {P : Program} {K : Value → World → Prop} {r r2 : Result Next} (e : r = r2) (h : settle P K r2) : settle P K r := e ▸ h
end Go.Proofs.Yteinbdifncdaiaa
