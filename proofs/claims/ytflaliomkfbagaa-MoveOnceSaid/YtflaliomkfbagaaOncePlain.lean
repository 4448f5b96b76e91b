/-
  gleanerlaw21.MoveOnce: who has which task, whatever notes are lost, doubled and late, as plain Lean.
-/
import Derived.Test.YtflaliomkfbagaaMvAll
namespace Go.Proofs.Ytflaliomkfbagaa
open Go.RowKit
set_option linter.unusedVariables false
set_option linter.unusedSimpArgs false

/-- A note on the way. -/
structure Wy where
  kd : Int
  node : Int
  life : Int
  epoch : Int
  id : ByteArray
  to : Int
def Wy.nt (y : Wy) : Nt := { Nt.zero with kind := y.kd, node := y.node, life := y.life, epoch := y.epoch, id := y.id }
def offY (m k j : Nat) : Wy := ⟨4, 0, (m : Int) + 1, 1, id1 k, (j : Int) + 1⟩
def ansY (kd : Int) (m k j : Nat) : Wy := ⟨kd, (j : Int) + 1, (m : Int) + 1, 1, id1 k, 0⟩
def keyM (m k : Nat) : OK3 := ⟨(id1 k, 1, ((m % 1000000 : Nat) : Int) + 1), (show (1 : Nat) ≤ maxLen by decide), i64_wf (show i64 1 by unfold i64; omega), i64_wf (show i64 (((m % 1000000 : Nat) : Int) + 1) by unfold i64; omega)⟩
theorem keyM_inj {m k m2 k2 : Nat} (hm : m < 1000000) (hm2 : m2 < 1000000) (hk : k < 256) (hk2 : k2 < 256) (h : keyM m k = keyM m2 k2) : m = m2 ∧ k = k2 := by
  have h2 := congrArg (fun x : OK3 => x.1.1) h
  have h3 := congrArg (fun x : OK3 => x.1.2.2) h
  have h4 : ((m % 1000000 : Nat) : Int) + 1 = ((m2 % 1000000 : Nat) : Int) + 1 := h3
  exact ⟨by omega, id1_inj hk hk2 h2⟩
theorem keyM_of {m k j : Nat} (hm : m < 1000000) (h : (offY m k j).nt.ok) : keyN (offY m k j).nt h = keyM m k := by
  refine Subtype.ext ?_
  show (id1 k, (1 : Int), (m : Int) + 1) = (id1 k, 1, ((m % 1000000 : Nat) : Int) + 1)
  rw [Nat.mod_eq_of_lt hm]

structure OSt where
  g : GvS
  t : List TkS
  way : List Wy
  last : ByteArray → Option Int
  L : List (Nat × Nat)

/-- What may be on the way: an offer that was made, or its answer as the taker told it. -/
def OkY (t : List TkS) (L : List (Nat × Nat)) (y : Wy) : Prop :=
  ∃ m k j : Nat, L[m]? = some (k, j) ∧ (y = offY m k j ∨ ∃ (kd : Int) (x : TkS), y = ansY kd m k j ∧ (kd = 5 ∨ kd = 6) ∧ t[j]? = some x ∧ x.told (keyM m k) = some kd)

structure OInv (T N : Nat) (s : OSt) : Prop where
  node : s.g.node = 0
  num : s.g.num = s.L.length
  tlen : s.t.length = N
  tnode : ∀ (j : Nat) (x : TkS), s.t[j]? = some x → x.node = (j : Int) + 1
  Lb : ∀ (m k j : Nat), s.L[m]? = some (k, j) → k < T ∧ j < N
  way : ∀ y ∈ s.way, OkY s.t s.L y
  told : ∀ (j : Nat) (x : TkS) (key : OK3) (v : Int), s.t[j]? = some x → x.told key = some v → (v = 5 ∨ v = 6) ∧ ∃ m k : Nat, key = keyM m k ∧ s.L[m]? = some (k, j)
  cur : ∀ (m k j : Nat) (x : TkS), s.L[m]? = some (k, j) → s.t[j]? = some x → (∃ v, x.told (keyM m k) = some v) ∨ s.g.off (id1 k) = some ⟨(j : Int) + 1, 1, (m : Int) + 1⟩
  off : ∀ a o, s.g.off a = some o → ∃ m k j : Nat, a = id1 k ∧ s.L[m]? = some (k, j) ∧ o = ⟨(j : Int) + 1, 1, (m : Int) + 1⟩ ∧ s.last a = some ((j : Int) + 1)
  has : ∀ a, s.g.has a = true → ∃ k : Nat, k < T ∧ a = id1 k
  A : ∀ k : Nat, k < T → s.g.has (id1 k) = true → s.g.off (id1 k) = none ∧ ∀ (j : Nat) (x : TkS), s.t[j]? = some x → x.has (id1 k) = false
  B : ∀ m k j : Nat, k < T → s.g.off (id1 k) = some ⟨(j : Int) + 1, 1, (m : Int) + 1⟩ → s.g.has (id1 k) = false ∧ ∀ (j' : Nat) (x : TkS), s.t[j']? = some x → (x.has (id1 k) = true ↔ (j' = j ∧ x.told (keyM m k) = some 5))
  C : ∀ k : Nat, k < T → s.g.has (id1 k) = false → s.g.off (id1 k) = none → ∃ (j : Nat) (x : TkS), s.t[j]? = some x ∧ ∀ (j' : Nat) (x' : TkS), s.t[j']? = some x' → (x'.has (id1 k) = true ↔ j' = j)

theorem OInv.ways {T N : Nat} {s : OSt} (h : OInv T N s) (W : List Wy) (hw : ∀ y ∈ W, OkY s.t s.L y) : OInv T N { s with way := W } :=
  ⟨h.node, h.num, h.tlen, h.tnode, h.Lb, hw, h.told, h.cur, h.off, h.has, h.A, h.B, h.C⟩
theorem OInv.sub {T N : Nat} {s : OSt} (h : OInv T N s) (W : List Wy) (hw : ∀ y ∈ W, y ∈ s.way) : OInv T N { s with way := W } := h.ways W fun y hy => h.way y (hw y hy)
theorem OInv.add {T N : Nat} {s : OSt} (h : OInv T N s) {y : Wy} (hy : OkY s.t s.L y) : OInv T N { s with way := s.way ++ [y] } := h.ways _ fun z hz => by
  rcases List.mem_append.1 hz with hz | hz
  · exact h.way z hz
  · rw [List.mem_singleton] at hz
    exact hz ▸ hy

theorem get_snoc {α : Type} {L : List α} {m : Nat} {x y : α} : (L ++ [x])[m]? = some y ↔ L[m]? = some y ∨ (m = L.length ∧ x = y) := by
  rcases Nat.lt_trichotomy m L.length with h | h | h
  · rw [List.getElem?_append_left h]
    constructor
    · exact .inl
    · rintro (h2 | ⟨h2, _⟩)
      · exact h2
      · omega
  · subst h
    simp
  · rw [List.getElem?_eq_none (by simp; omega), List.getElem?_eq_none (by omega)]
    constructor
    · intro h2; cases h2
    · rintro (h2 | ⟨h2, _⟩)
      · cases h2
      · omega

/-- An offer is made. -/
theorem OInv.offer {T N : Nat} {s : OSt} (h : OInv T N s) (hT : T ≤ 16) (hL : s.L.length < 1000) {k j : Nat} (hk : k < T) (hj : j < N) (hh : s.g.has (id1 k) = true) :
    OInv T N { g := offerS s.g (id1 k) ⟨(j : Int) + 1, 1, s.g.num + 1⟩, t := s.t, way := s.way ++ [offY s.L.length k j], last := fun a => if a = id1 k then some ((j : Int) + 1) else s.last a, L := s.L ++ [(k, j)] } := by
  have hA := h.A k hk hh
  have hnum := h.num
  have hoffN : ∀ a, (offerS s.g (id1 k) ⟨(j : Int) + 1, 1, s.g.num + 1⟩).off a = if a = id1 k then some ⟨(j : Int) + 1, 1, (s.L.length : Int) + 1⟩ else s.g.off a := fun a => by
    show (if a = id1 k then _ else _) = _
    rw [hnum]
  have hhasN : ∀ a, (offerS s.g (id1 k) ⟨(j : Int) + 1, 1, s.g.num + 1⟩).has a = (!decide (a = id1 k) && s.g.has a) := fun a => rfl
  have hinj : ∀ k', k' < T → id1 k' = id1 k → k' = k := fun k' hk' e => id1_inj (by omega) (by omega) e
  have hLs : ∀ m, m < s.L.length → m < 1000000 := fun m hm => by omega
  have hlt : ∀ m y, s.L[m]? = some y → m < s.L.length := fun m y e => (List.getElem?_eq_some_iff.1 e).1
  refine ⟨h.node, ?_, h.tlen, h.tnode, ?_, ?_, ?_, ?_, ?_, ?_, ?_, ?_, ?_⟩
  · show s.g.num + 1 = ((s.L ++ [(k, j)]).length : Int)
    rw [hnum]; simp
  · intro m k' j' e
    rcases get_snoc.1 e with e | ⟨_, e⟩
    · exact h.Lb m k' j' e
    · cases e; exact ⟨hk, hj⟩
  · intro y hy
    rcases List.mem_append.1 hy with hy | hy
    · obtain ⟨m, k', j', e, h2⟩ := h.way y hy
      exact ⟨m, k', j', get_snoc.2 (.inl e), h2⟩
    · rw [List.mem_singleton] at hy
      exact ⟨s.L.length, k, j, get_snoc.2 (.inr ⟨rfl, rfl⟩), .inl hy⟩
  · intro j' x key v e e2
    obtain ⟨h1, m, k', h3, h4⟩ := h.told j' x key v e e2
    exact ⟨h1, m, k', h3, get_snoc.2 (.inl h4)⟩
  · intro m k' j' x e e2
    show _ ∨ (offerS s.g (id1 k) _).off (id1 k') = _
    rw [hoffN]
    rcases get_snoc.1 e with e | ⟨e9, e3⟩
    · rcases h.cur m k' j' x e e2 with h1 | h1
      · exact .inl h1
      · refine .inr ?_
        rw [if_neg]
        · exact h1
        · intro e4
          rw [e4, hA.1] at h1
          cases h1
    · cases e3
      subst e9
      exact .inr (if_pos rfl)
  · intro a o ho
    rw [hoffN] at ho
    show ∃ m k' j', _ ∧ _ ∧ _ ∧ (if a = id1 k then some ((j : Int) + 1) else s.last a) = _
    by_cases ha : a = id1 k
    · rw [if_pos ha] at ho
      obtain rfl := Option.some.inj ho
      exact ⟨s.L.length, k, j, ha, get_snoc.2 (.inr ⟨rfl, rfl⟩), rfl, if_pos ha⟩
    · rw [if_neg ha] at ho
      obtain ⟨m, k', j', h1, h2, h3, h4⟩ := h.off a o ho
      exact ⟨m, k', j', h1, get_snoc.2 (.inl h2), h3, by rw [if_neg ha]; exact h4⟩
  · intro a ha
    rw [hhasN, Bool.and_eq_true] at ha
    exact h.has a ha.2
  · intro k' hk' ha
    rw [hhasN, Bool.and_eq_true] at ha
    have hne : ¬ id1 k' = id1 k := by simpa using ha.1
    refine ⟨?_, (h.A k' hk' ha.2).2⟩
    rw [hoffN, if_neg hne]
    exact (h.A k' hk' ha.2).1
  · intro m k' j' hk' ho
    rw [hoffN] at ho
    rw [hhasN]
    by_cases he : id1 k' = id1 k
    · obtain rfl := hinj k' hk' he
      rw [if_pos rfl] at ho
      have ho := Option.some.inj ho
      have h1 : (j : Int) + 1 = (j' : Int) + 1 := congrArg Of.to ho
      have h2 : (s.L.length : Int) + 1 = (m : Int) + 1 := congrArg Of.num ho
      obtain rfl : s.L.length = m := by omega
      refine ⟨by simp, fun j2 x hx => ?_⟩
      rw [hA.2 j2 x hx]
      constructor
      · intro e; cases e
      · rintro ⟨_, e⟩
        obtain ⟨_, m2, k2, e1, e2⟩ := h.told j2 x _ _ hx e
        have := hlt _ _ e2
        have := (keyM_inj (by omega) (by omega) (by omega) (by have := (h.Lb _ _ _ e2).1; omega) e1).1
        omega
    · rw [if_neg he] at ho
      obtain ⟨h1, h2⟩ := h.B m k' j' hk' ho
      exact ⟨by rw [h1, Bool.and_false], h2⟩
  · intro k' hk' ha ho
    rw [hoffN] at ho
    rw [hhasN] at ha
    by_cases he : id1 k' = id1 k
    · rw [if_pos he] at ho; cases ho
    · rw [if_neg he] at ho
      rw [decide_eq_false he, Bool.not_false, Bool.true_and] at ha
      exact h.C k' hk' ha ho

/-- What stands is offered once more. -/
theorem OInv.again {T N : Nat} {s : OSt} (h : OInv T N s) {k : Nat} (hT : T ≤ 16) (hk : k < T) {o : Of} (ho : s.g.off (id1 k) = some o) :
    ∃ m j : Nat, s.L[m]? = some (k, j) ∧ o = ⟨(j : Int) + 1, 1, (m : Int) + 1⟩ ∧ s.last (id1 k) = some ((j : Int) + 1) ∧ OInv T N { s with way := s.way ++ [offY m k j] } := by
  obtain ⟨m, k', j, h1, h2, h3, h4⟩ := h.off _ o ho
  obtain rfl := id1_inj (by omega) (by have := (h.Lb _ _ _ h2).1; omega) h1
  exact ⟨m, j, h2, h3, h4, h.add ⟨m, k, j, h2, .inl rfl⟩⟩

/-- An answer comes in. -/
theorem OInv.hears {T N : Nat} {s : OSt} (h : OInv T N s) (hT : T ≤ 16) (hL : s.L.length < 1000) {kd : Int} {m k j : Nat} (hy : OkY s.t s.L (ansY kd m k j)) : OInv T N { s with g := if inOk s.g (ansY kd m k j).nt then inS s.g (ansY kd m k j).nt else s.g } := by
  cases hi : inOk s.g (ansY kd m k j).nt with
  | false => exact h
  | true =>
    rw [if_pos rfl]
    have hlt : ∀ m y, s.L[m]? = some y → m < s.L.length := fun m y e => (List.getElem?_eq_some_iff.1 e).1
    obtain ⟨m1, k1, j1, hLm, hy⟩ := hy
    have hk1 := (h.Lb _ _ _ hLm).1
    obtain ⟨x, hkd, hx, htold, rfl, rfl, hke⟩ : ∃ x : TkS, (kd = 5 ∨ kd = 6) ∧ s.t[j1]? = some x ∧ x.told (keyM m1 k1) = some kd ∧ m1 = m ∧ j1 = j ∧ id1 k1 = id1 k := by
      rcases hy with e | ⟨kd2, x, e, h1, h2, h3⟩
      · have := congrArg Wy.to e
        have : (0 : Int) = (j1 : Int) + 1 := this
        omega
      · have e1 : kd = kd2 := congrArg Wy.kd e
        have e2 : (j : Int) + 1 = (j1 : Int) + 1 := congrArg Wy.node e
        have e3 : (m : Int) + 1 = (m1 : Int) + 1 := congrArg Wy.life e
        have e4 : id1 k = id1 k1 := congrArg Wy.id e
        subst e1
        exact ⟨x, h1, h2, h3, by omega, by omega, e4.symm⟩
    have hoff : s.g.off (id1 k1) = some ⟨(j1 : Int) + 1, 1, (m1 : Int) + 1⟩ := by
      unfold inOk at hi
      rw [show (ansY kd m1 k j1).nt.id = id1 k1 from hke.symm] at hi
      cases ho : s.g.off (id1 k1) with
      | none => rw [ho] at hi; cases hi
      | some o =>
        rw [ho] at hi
        have hi : ((kd == 5 || kd == 6) && (o.to == (j1 : Int) + 1 && o.epoch == 1 && o.num == (m1 : Int) + 1)) = true := hi
        simp only [Bool.and_eq_true, beq_iff_eq] at hi
        obtain ⟨_, ⟨e1, e2⟩, e3⟩ := hi
        cases o
        simp only at e1 e2 e3
        subst e1 e2 e3
        rfl
    have hB := h.B m1 k1 j1 hk1 hoff
    have hoffN : ∀ a, (inS s.g (ansY kd m1 k j1).nt).off a = if a = id1 k1 then none else s.g.off a := fun a => by
      show (if a = id1 k then _ else _) = _
      rw [← hke]
    have hhasN : ∀ a, (inS s.g (ansY kd m1 k j1).nt).has a = if kd = 6 then (decide (a = id1 k1) || s.g.has a) else s.g.has a := fun a => by
      show (if kd = 6 then fun c => decide (c = id1 k) || s.g.has c else s.g.has) a = _
      rw [← hke]
      by_cases e : kd = 6
      · rw [if_pos e, if_pos e]
      · rw [if_neg e, if_neg e]
    have hinj : ∀ k', k' < T → id1 k' = id1 k1 → k' = k1 := fun k' hk' e => id1_inj (by omega) (by omega) e
    refine ⟨h.node, h.num, h.tlen, h.tnode, h.Lb, h.way, h.told, ?_, ?_, ?_, ?_, ?_, ?_⟩
    · intro m' k' j' x' e e2
      rcases h.cur m' k' j' x' e e2 with h1 | h1
      · exact .inl h1
      · show _ ∨ (inS s.g _).off (id1 k') = _
        rw [hoffN]
        by_cases he : id1 k' = id1 k1
        · obtain rfl := hinj k' (h.Lb _ _ _ e).1 he
          rw [hoff] at h1
          have h1 := Option.some.inj h1
          have e5 : (j1 : Int) + 1 = (j' : Int) + 1 := congrArg Of.to h1
          have e6 : (m1 : Int) + 1 = (m' : Int) + 1 := congrArg Of.num h1
          obtain rfl : j1 = j' := by omega
          obtain rfl : m1 = m' := by omega
          rw [hx] at e2
          obtain rfl := Option.some.inj e2
          exact .inl ⟨kd, htold⟩
        · rw [if_neg he]
          exact .inr h1
    · intro a o ho
      rw [hoffN] at ho
      by_cases he : a = id1 k1
      · rw [if_pos he] at ho; cases ho
      · rw [if_neg he] at ho
        exact h.off a o ho
    · intro a ha
      rw [hhasN] at ha
      by_cases e : kd = 6
      · rw [if_pos e] at ha
        by_cases he : a = id1 k1
        · exact ⟨k1, hk1, he⟩
        · rw [decide_eq_false he, Bool.false_or] at ha
          exact h.has a ha
      · rw [if_neg e] at ha
        exact h.has a ha
    · intro k' hk' ha
      rw [hhasN] at ha
      rw [hoffN]
      by_cases he : id1 k' = id1 k1
      · obtain rfl := hinj k' hk' he
        rw [if_pos rfl]
        refine ⟨rfl, fun j' x' hx' => ?_⟩
        by_cases e : kd = 6
        · subst e
          rw [← Bool.not_eq_true, hB.2 j' x' hx']
          rintro ⟨rfl, e2⟩
          rw [hx] at hx'
          obtain rfl := Option.some.inj hx'
          rw [htold] at e2
          cases e2
        · rw [if_neg e, hB.1] at ha
          cases ha
      · rw [if_neg he]
        have ha : s.g.has (id1 k') = true := by
          by_cases e : kd = 6
          · rw [if_pos e, decide_eq_false he, Bool.false_or] at ha
            exact ha
          · rw [if_neg e] at ha
            exact ha
        exact h.A k' hk' ha
    · intro m' k' j' hk' ho
      rw [hoffN] at ho
      by_cases he : id1 k' = id1 k1
      · rw [if_pos he] at ho; cases ho
      · rw [if_neg he] at ho
        refine ⟨?_, (h.B m' k' j' hk' ho).2⟩
        rw [hhasN, decide_eq_false he, Bool.false_or, (h.B m' k' j' hk' ho).1]
        simp
    · intro k' hk' ha ho
      rw [hhasN] at ha
      rw [hoffN] at ho
      by_cases he : id1 k' = id1 k1
      · obtain rfl := hinj k' hk' he
        have hk5 : kd = 5 := by
          rcases hkd with e | e
          · exact e
          · rw [if_pos e] at ha
            simp at ha
        subst hk5
        refine ⟨j1, x, hx, fun j' x' hx' => ?_⟩
        rw [hB.2 j' x' hx']
        constructor
        · exact fun e => e.1
        · rintro rfl
          rw [hx] at hx'
          obtain rfl := Option.some.inj hx'
          exact ⟨rfl, htold⟩
      · rw [if_neg he] at ho
        have ha : s.g.has (id1 k') = false := by
          by_cases e : kd = 6
          · rw [if_pos e, decide_eq_false he, Bool.false_or] at ha
            exact ha
          · rw [if_neg e] at ha
            exact ha
        exact h.C k' hk' ha ho

/-- An offer comes in at its taker. -/
theorem OInv.asks {T N : Nat} {s : OSt} (h : OInv T N s) (hT : T ≤ 16) (hL : s.L.length < 1000) {m k j : Nat} (hLm : s.L[m]? = some (k, j)) {x : TkS} (hx : s.t[j]? = some x) (ns : Nat) (hn : (offY m k j).nt.ok) :
    ∃ kd : Int, kd = tkKd x ns (offY m k j).nt hn ∧ (kd = 5 ∨ kd = 6) ∧ OInv T N { s with t := s.t.set j (tkS2 x ns (offY m k j).nt hn), way := s.way ++ [ansY kd m k j] } := by
  have hlt : ∀ m y, s.L[m]? = some y → m < s.L.length := fun m y e => (List.getElem?_eq_some_iff.1 e).1
  have hm := hlt _ _ hLm
  obtain ⟨hkT, hjN⟩ := h.Lb _ _ _ hLm
  have hkey := keyM_of (j := j) (show m < 1000000 by omega) hn
  have hjl : j < s.t.length := by rw [h.tlen]; exact hjN
  cases ht : x.told (keyM m k) with
  | some v =>
    obtain ⟨h1, h2, _⟩ := tkB_again (ns := ns) (n := (offY m k j).nt) (hn := hn) (v := v) (by rw [hkey]; exact ht)
    refine ⟨v, h1.symm, (h.told j x _ v hx ht).1, ?_⟩
    rw [h2, show s.t.set j x = s.t from by
      apply List.ext_getElem?
      intro i
      rw [List.getElem?_set]
      by_cases e : j = i
      · subst e; rw [if_pos rfl, if_pos hjl, hx]
      · rw [if_neg e]]
    exact h.add ⟨m, k, j, hLm, .inr ⟨v, x, rfl, (h.told j x _ v hx ht).1, hx, ht⟩⟩
  | none =>
    have hoff : s.g.off (id1 k) = some ⟨(j : Int) + 1, 1, (m : Int) + 1⟩ := by
      rcases h.cur m k j x hLm hx with ⟨v, e⟩ | e
      · rw [ht] at e; cases e
      · exact e
    have hB := h.B m k j hkT hoff
    have hxh : x.has (id1 k) = false := by
      rw [← Bool.not_eq_true, hB.2 j x hx]
      rintro ⟨_, e⟩
      rw [ht] at e; cases e
    obtain ⟨kd, hkd⟩ : ∃ kd, tkKd x ns (offY m k j).nt hn = kd := ⟨_, rfl⟩
    have hk56 : kd = 5 ∨ kd = 6 := by
      rw [← hkd]
      unfold tkKd
      rw [hkey, ht]
      show (if _ then _ else _) = _ ∨ (if _ then _ else _) = _
      by_cases e : tkYes x ns (offY m k j).nt = true
      · rw [if_pos e]; exact .inl rfl
      · rw [if_neg e]; exact .inr rfl
    have hs2 : tkS2 x ns (offY m k j).nt hn = takeS x (offY m k j).nt hn kd := by
      rw [← hkd]
      unfold tkS2 tkKd
      rw [hkey, ht]
    refine ⟨kd, hkd.symm, hk56, ?_⟩
    rw [hs2]
    obtain ⟨z, hz⟩ : ∃ z, takeS x (offY m k j).nt hn kd = z := ⟨_, rfl⟩
    have hzn : z.node = x.node := by rw [← hz]; rfl
    have hzt : ∀ key, z.told key = if key = keyM m k then some kd else x.told key := fun key => by
      rw [← hz]
      show (if key = keyN _ hn then _ else _) = _
      rw [hkey]
    have hzh : ∀ a, z.has a = if kd = 5 then (decide (a = id1 k) || x.has a) else x.has a := fun a => by
      rw [← hz]
      show (if kd = 5 then fun c => decide (c = id1 k) || x.has c else x.has) a = _
      by_cases e : kd = 5
      · rw [if_pos e, if_pos e]
      · rw [if_neg e, if_neg e]
    rw [hz]
    have hget : ∀ i y, (s.t.set j z)[i]? = some y ↔ (i = j ∧ y = z) ∨ (i ≠ j ∧ s.t[i]? = some y) := by
      intro i y
      rw [List.getElem?_set]
      by_cases e : j = i
      · subst e
        rw [if_pos rfl, if_pos hjl]
        constructor
        · intro e; exact .inl ⟨rfl, (Option.some.inj e).symm⟩
        · rintro (⟨_, e⟩ | ⟨e, _⟩)
          · rw [e]
          · exact absurd rfl e
      · rw [if_neg e]
        constructor
        · intro e2; exact .inr ⟨fun e3 => e e3.symm, e2⟩
        · rintro (⟨e2, _⟩ | ⟨_, e2⟩)
          · exact absurd e2.symm e
          · exact e2
    have hkeep : ∀ m' k' v, x.told (keyM m' k') = some v → z.told (keyM m' k') = some v := by
      intro m' k' v e
      rw [hzt]
      by_cases e2 : keyM m' k' = keyM m k
      · rw [e2, ht] at e; cases e
      · rw [if_neg e2]; exact e
    have hzsame : ∀ k', k' < T → k' ≠ k → z.has (id1 k') = x.has (id1 k') := fun k' hk' hne => by
      have : ¬ id1 k' = id1 k := fun e => hne (id1_inj (by omega) (by omega) e)
      rw [hzh, decide_eq_false this, Bool.false_or]
      simp
    have hztsame : ∀ m' k', k' < T → k' ≠ k → m' < 1000000 → z.told (keyM m' k') = x.told (keyM m' k') := fun m' k' hk' hne hm' => by
      rw [hzt, if_neg]
      intro e
      exact hne (keyM_inj hm' (by omega) (by omega) (by omega) e).2
    refine ⟨h.node, h.num, by simp [h.tlen], ?_, h.Lb, ?_, ?_, ?_, h.off, h.has, ?_, ?_, ?_⟩
    · intro i y e
      rcases (hget i y).1 e with ⟨rfl, rfl⟩ | ⟨_, e⟩
      · rw [hzn]; exact h.tnode i x hx
      · exact h.tnode i y e
    · intro y hy
      rcases List.mem_append.1 hy with hy | hy
      · obtain ⟨m', k', j', e, h2⟩ := h.way y hy
        refine ⟨m', k', j', e, ?_⟩
        rcases h2 with h2 | ⟨kd2, x2, e1, e2, e3, e4⟩
        · exact .inl h2
        · refine .inr ?_
          by_cases ej : j' = j
          · subst ej
            rw [hx] at e3
            obtain rfl := Option.some.inj e3
            exact ⟨kd2, z, e1, e2, (hget _ _).2 (.inl ⟨rfl, rfl⟩), hkeep _ _ _ e4⟩
          · exact ⟨kd2, x2, e1, e2, (hget _ _).2 (.inr ⟨ej, e3⟩), e4⟩
      · rw [List.mem_singleton] at hy
        exact ⟨m, k, j, hLm, .inr ⟨kd, z, hy, hk56, (hget _ _).2 (.inl ⟨rfl, rfl⟩), by rw [hzt, if_pos rfl]⟩⟩
    · intro i y key v e e2
      rcases (hget i y).1 e with ⟨rfl, rfl⟩ | ⟨_, e⟩
      · rw [hzt] at e2
        by_cases ek : key = keyM m k
        · rw [if_pos ek] at e2
          obtain rfl := Option.some.inj e2
          exact ⟨hk56, m, k, ek, hLm⟩
        · rw [if_neg ek] at e2
          exact h.told i x key v hx e2
      · exact h.told i y key v e e2
    · intro m' k' j' y e e2
      rcases (hget j' y).1 e2 with ⟨rfl, rfl⟩ | ⟨_, e2⟩
      · rcases h.cur m' k' j' x e hx with ⟨v, h1⟩ | h1
        · exact .inl ⟨v, hkeep _ _ _ h1⟩
        · exact .inr h1
      · exact h.cur m' k' j' y e e2
    · intro k' hk' ha
      have hne : k' ≠ k := fun e => by rw [e, hB.1] at ha; cases ha
      refine ⟨(h.A k' hk' ha).1, fun i y e => ?_⟩
      rcases (hget i y).1 e with ⟨rfl, rfl⟩ | ⟨_, e⟩
      · rw [hzsame k' hk' hne]; exact (h.A k' hk' ha).2 i x hx
      · exact (h.A k' hk' ha).2 i y e
    · intro m' k' j' hk' ho
      by_cases hne : k' = k
      · subst hne
        have ho2 : s.g.off (id1 k') = some ⟨(j' : Int) + 1, 1, (m' : Int) + 1⟩ := ho
        rw [hoff] at ho2
        have ho2 := Option.some.inj ho2
        have e5 : (j : Int) + 1 = (j' : Int) + 1 := congrArg Of.to ho2
        have e6 : (m : Int) + 1 = (m' : Int) + 1 := congrArg Of.num ho2
        obtain rfl : j = j' := by omega
        obtain rfl : m = m' := by omega
        refine ⟨hB.1, fun i y e => ?_⟩
        rcases (hget i y).1 e with ⟨rfl, rfl⟩ | ⟨hne, e⟩
        · rw [hzt, if_pos rfl, hzh, hxh]
          rcases hk56 with e5 | e5 <;> subst e5 <;> simp
        · exact hB.2 i y e
      · have hm' : m' < 1000000 := by
          obtain ⟨m2, k2, j2, e1, e2, e3, _⟩ := h.off _ _ ho
          have e4 : (m' : Int) + 1 = (m2 : Int) + 1 := congrArg Of.num e3
          have := hlt _ _ e2
          omega
        refine ⟨(h.B m' k' j' hk' ho).1, fun i y e => ?_⟩
        rcases (hget i y).1 e with ⟨rfl, rfl⟩ | ⟨_, e⟩
        · rw [hzsame k' hk' hne, hztsame m' k' hk' hne hm']
          exact (h.B m' k' j' hk' ho).2 i x hx
        · exact (h.B m' k' j' hk' ho).2 i y e
    · intro k' hk' ha ho
      have hne : k' ≠ k := fun e => by
        have ho2 : s.g.off (id1 k') = none := ho
        rw [e, hoff] at ho2; cases ho2
      obtain ⟨j0, x0, h1, h2⟩ := h.C k' hk' ha ho
      have hnew : ∀ i y, (s.t.set j z)[i]? = some y → (y.has (id1 k') = true ↔ i = j0) := fun i y e => by
        rcases (hget i y).1 e with ⟨rfl, rfl⟩ | ⟨_, e⟩
        · rw [hzsame k' hk' hne]; exact h2 i x hx
        · exact h2 i y e
      by_cases e0 : j0 = j
      · subst e0
        exact ⟨j0, z, (hget _ _).2 (.inl ⟨rfl, rfl⟩), hnew⟩
      · exact ⟨j0, x0, (hget _ _).2 (.inr ⟨e0, h1⟩), hnew⟩

/-- How many takers have a task. -/
def cntT (t : List TkS) (a : ByteArray) : Nat := t.countP fun x => x.has a
theorem cnt_le : ∀ (t : List TkS) (a : ByteArray) (j : Nat), (∀ (i : Nat) (x : TkS), t[i]? = some x → x.has a = true → i = j) → cntT t a ≤ 1
  | [], a, j, h => Nat.zero_le _
  | x :: t, a, j, h => by
    unfold cntT
    rw [List.countP_cons]
    by_cases hx : x.has a = true
    · have h0 := h 0 x rfl hx
      have : cntT t a = 0 := by
        unfold cntT
        rw [List.countP_eq_zero]
        intro y hy e
        obtain ⟨i, hi⟩ := List.getElem?_of_mem hy
        have := h (i + 1) y (by simpa using hi) e
        omega
      unfold cntT at this
      rw [this, if_pos hx]
      exact Nat.le_refl _
    · rw [if_neg hx]
      exact cnt_le t a (j - 1) fun i y e e2 => by
        have := h (i + 1) y (by simpa using e) e2
        omega
theorem cnt_zero {t : List TkS} {a : ByteArray} (h : ∀ (i : Nat) (x : TkS), t[i]? = some x → x.has a = false) : cntT t a = 0 := by
  unfold cntT
  rw [List.countP_eq_zero]
  intro y hy e
  obtain ⟨i, hi⟩ := List.getElem?_of_mem hy
  rw [h i y hi] at e
  cases e
/-- Each task is had by one at most, and by one just as long as none is offered. -/
theorem OInv.once {T N : Nat} {s : OSt} (h : OInv T N s) {k : Nat} (hk : k < T) : (if s.g.has (id1 k) then 1 else 0) + cntT s.t (id1 k) ≤ 1 ∧ ((if s.g.has (id1 k) then 1 else 0) + cntT s.t (id1 k) = 0 → (s.g.off (id1 k)).isSome = true) := by
  cases hh : s.g.has (id1 k) with
  | true =>
    have := cnt_zero (h.A k hk hh).2
    rw [this]
    exact ⟨by simp, fun e => by simp at e⟩
  | false =>
    cases ho : s.g.off (id1 k) with
    | some o =>
      obtain ⟨m, k2, j, e1, e2, e3, _⟩ := h.off _ _ ho
      subst e3
      have := cnt_le s.t (id1 k) j fun i x e e4 => (((h.B m k j hk ho).2 i x e).1 e4).1
      exact ⟨by simpa using this, fun _ => rfl⟩
    | none =>
      obtain ⟨j, x, h1, h2⟩ := h.C k hk hh ho
      have := cnt_le s.t (id1 k) j fun i x e e4 => (h2 i x e).1 e4
      refine ⟨by simpa using this, fun e => ?_⟩
      have e : cntT s.t (id1 k) = 0 := by simpa using e
      unfold cntT at e
      rw [List.countP_eq_zero] at e
      exact absurd ((h2 j x h1).2 rfl) (e x (List.mem_of_getElem? h1))
end Go.Proofs.Ytflaliomkfbagaa
