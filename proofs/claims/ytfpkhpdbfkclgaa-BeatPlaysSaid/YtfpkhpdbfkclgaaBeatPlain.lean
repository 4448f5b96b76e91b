/-
  Who is watched: plain Lean.
-/
import Derived.Test.YtfpkhpdbfkclgaaRise
import Derived.Test.YtfpkhpdbfkclgaaLaw
namespace Go.Proofs.Ytfpkhpdbfkclgaa
set_option linter.unusedVariables false
set_option linter.unusedSimpArgs false

/-- A node that is watched, or was: its number, its life, when it was heard of last, its greatest life; is it watched? -/
structure Wt where
  node : Int
  life : Int
  at_ : Int
  most : Int
  inn : Bool

def fW (L : List Wt) (a : Int) : Option Nat := L.findIdx? fun x => decide (x.node = a)
def gW (L : List Wt) (a : Int) : Option Wt := L.find? fun x => decide (x.node = a)
def nW (L : List Wt) (a : Int) : Option (Int × Int) := (gW L a).bind fun x => if x.inn then some (x.life, x.at_) else none
def mW (L : List Wt) (a : Int) : Option Int := (gW L a).map (·.most)
theorem gW_cons (y : Wt) (L : List Wt) (b : Int) : gW (y :: L) b = if y.node = b then some y else gW L b := by
  unfold gW
  simp only [List.find?_cons]
  by_cases h : y.node = b <;> simp [h]
theorem fW_cons (y : Wt) (L : List Wt) (b : Int) : fW (y :: L) b = if y.node = b then some 0 else (fW L b).map (· + 1) := by
  unfold fW
  simp only [List.findIdx?_cons]
  by_cases h : y.node = b <;> simp [h]
theorem gW_set : ∀ {L : List Wt} {k : Nat} {x : Wt} (b : Int), fW L x.node = some k → gW (L.set k x) b = if b = x.node then some x else gW L b
  | [], k, x, b, h => by simp [fW] at h
  | y :: L, k, x, b, h => by
    rw [fW_cons] at h
    by_cases hy : y.node = x.node
    · rw [if_pos hy] at h
      obtain rfl := (Option.some.inj h).symm
      rw [List.set_cons_zero, gW_cons, gW_cons, hy]
      by_cases hb : b = x.node
      · rw [if_pos hb.symm, if_pos hb]
      · rw [if_neg (fun e => hb e.symm), if_neg hb, if_neg (fun e => hb e.symm)]
    · rw [if_neg hy] at h
      cases hf : fW L x.node with
      | none => rw [hf] at h; cases h
      | some j =>
        rw [hf] at h
        obtain rfl : j + 1 = k := Option.some.inj h
        rw [List.set_cons_succ, gW_cons, gW_cons, gW_set b hf]
        by_cases hb : y.node = b
        · rw [if_pos hb, if_pos hb, if_neg (fun e => hy (hb.trans e))]
        · rw [if_neg hb, if_neg hb]
theorem fW_some : ∀ {L : List Wt} {a : Int} {k : Nat}, fW L a = some k → ∃ x, L[k]? = some x ∧ x.node = a ∧ gW L a = some x
  | [], a, k, h => by simp [fW] at h
  | y :: L, a, k, h => by
    rw [fW_cons] at h
    by_cases hy : y.node = a
    · rw [if_pos hy] at h
      obtain rfl := (Option.some.inj h).symm
      exact ⟨y, rfl, hy, by rw [gW_cons, if_pos hy]⟩
    · rw [if_neg hy] at h
      cases hf : fW L a with
      | none => rw [hf] at h; cases h
      | some j =>
        rw [hf] at h
        obtain rfl : j + 1 = k := Option.some.inj h
        obtain ⟨x, h1, h2, h3⟩ := fW_some hf
        exact ⟨x, by simpa using h1, h2, by rw [gW_cons, if_neg hy, h3]⟩
theorem fW_none : ∀ {L : List Wt} {a : Int}, fW L a = none → gW L a = none
  | [], a, h => rfl
  | y :: L, a, h => by
    rw [fW_cons] at h
    by_cases hy : y.node = a
    · rw [if_pos hy] at h; cases h
    · rw [if_neg hy] at h
      rw [gW_cons, if_neg hy]
      apply fW_none
      cases hf : fW L a with
      | none => rfl
      | some j => rw [hf] at h; cases h
theorem fW_not {L : List Wt} {a : Int} : fW L a = none ↔ ∀ x ∈ L, x.node ≠ a := by
  unfold fW
  rw [List.findIdx?_eq_none_iff]
  simp
theorem gW_app {L : List Wt} {x : Wt} (b : Int) (h : fW L x.node = none) : gW (L ++ [x]) b = if b = x.node then some x else gW L b := by
  have h0 := fW_none h
  have e : gW (L ++ [x]) b = (gW L b).or (gW [x] b) := by unfold gW; exact List.find?_append
  rw [e, gW_cons]
  by_cases hb : b = x.node
  · subst hb
    rw [if_pos rfl, if_pos rfl, h0]; rfl
  · rw [if_neg (fun e => hb e.symm), if_neg hb]
    show (gW L b).or none = _
    simp
theorem gW_mem {L : List Wt} {a : Int} {x : Wt} (h : gW L a = some x) : x ∈ L ∧ x.node = a := by
  unfold gW at h
  exact ⟨List.mem_of_find?_eq_some h, by simpa using List.find?_some h⟩
theorem gW_of_mem : ∀ {L : List Wt} {x : Wt}, (L.map (·.node)).Nodup → x ∈ L → gW L x.node = some x
  | [], x, _, h => by cases h
  | y :: L, x, hd, h => by
    rw [List.map_cons, List.nodup_cons] at hd
    rw [gW_cons]
    rcases List.mem_cons.1 h with rfl | h
    · rw [if_pos rfl]
    · rw [if_neg (fun e => hd.1 (by rw [e]; exact List.mem_map_of_mem h))]
      exact gW_of_mem hd.2 h

/-- A life, a time may be. -/
def mayB (n : Int) : Bool := decide (0 ≤ n) && decide (n ≤ 1099511627776)
theorem mayB_iff {n : Int} : mayB n = true ↔ 0 ≤ n ∧ n ≤ 1099511627776 := by unfold mayB; simp
/-- No node twice; lives and times as they may be. -/
structure OkW (L : List Wt) : Prop where
  nd : (L.map (·.node)).Nodup
  lf : ∀ x ∈ L, mayB x.life = true ∧ mayB x.at_ = true ∧ mayB x.most = true ∧ i64 x.node

theorem set_node {L : List Wt} {k : Nat} {x y : Wt} (h : L[k]? = some y) (hn : x.node = y.node) : (L.set k x).map (·.node) = L.map (·.node) := by
  apply List.ext_getElem?
  intro j
  rw [List.getElem?_map, List.getElem?_map, List.getElem?_set]
  by_cases e : k = j
  · subst e
    rw [if_pos rfl, h]
    have := (List.getElem?_eq_some_iff.1 h).1
    simp [this, hn]
  · rw [if_neg e]
theorem OkW.set {L : List Wt} (h : OkW L) {k : Nat} {x y : Wt} (hy : L[k]? = some y) (hn : x.node = y.node) (hx : mayB x.life = true ∧ mayB x.at_ = true ∧ mayB x.most = true) : OkW (L.set k x) := by
  refine ⟨by rw [set_node hy hn]; exact h.nd, fun z hz => ?_⟩
  rcases List.mem_or_eq_of_mem_set hz with hz | rfl
  · exact h.lf z hz
  · exact ⟨hx.1, hx.2.1, hx.2.2, by rw [hn]; exact (h.lf y (List.mem_of_getElem? hy)).2.2.2⟩
theorem OkW.app {L : List Wt} (h : OkW L) {x : Wt} (hf : fW L x.node = none) (hx : mayB x.life = true ∧ mayB x.at_ = true ∧ mayB x.most = true ∧ i64 x.node) : OkW (L ++ [x]) := by
  refine ⟨?_, fun z hz => ?_⟩
  · rw [List.map_append, List.nodup_append]
    refine ⟨h.nd, by simp, fun u hu v hv => ?_⟩
    simp at hv
    subst hv
    obtain ⟨y, hy, rfl⟩ := List.mem_map.1 hu
    exact fW_not.1 hf y hy
  · rcases List.mem_append.1 hz with hz | hz
    · exact h.lf z hz
    · simp at hz; subst hz; exact hx
theorem OkW.nil : OkW [] := ⟨by simp, fun x h => by cases h⟩

/-- The watched ones that were heard of last ahead of t, rising. -/
def lateK (L : List Wt) (t : Int) (k : Nat) : List Int := risen (((L.take k).filter fun x => x.inn && decide (x.at_ < t)).map (·.node))
def lateW (L : List Wt) (t : Int) : List Int := risen ((L.filter fun x => x.inn && decide (x.at_ < t)).map (·.node))
theorem lateK_all {L : List Wt} {t : Int} {k : Nat} (h : L.length ≤ k) : lateK L t k = lateW L t := by
  unfold lateK lateW
  rw [List.take_of_length_le h]
theorem lateK_succ {L : List Wt} {t : Int} {k : Nat} {x : Wt} (h : L[k]? = some x) : lateK L t (k + 1) = if x.inn && decide (x.at_ < t) then riseI x.node (lateK L t k) else lateK L t k := by
  unfold lateK
  rw [List.take_add_one, h, List.filter_append]
  cases hb : (x.inn && decide (x.at_ < t)) with
  | true =>
    rw [if_pos rfl, ← risen_snoc]
    simp only [Option.toList_some, List.filter_cons, hb, if_pos, List.filter_nil, List.map_append, List.map_cons, List.map_nil]
  | false =>
    simp only [Option.toList_some, List.filter_cons, hb, List.filter_nil, List.append_nil]
    simp
theorem lateW_mem {L : List Wt} {t z : Int} (h : OkW L) : z ∈ lateW L t ↔ ∃ l a, nW L z = some (l, a) ∧ a < t := by
  unfold lateW
  rw [(risen_spec _).2, List.mem_map]
  constructor
  · rintro ⟨x, hx, rfl⟩
    obtain ⟨h1, h2⟩ := List.mem_filter.1 hx
    simp only [Bool.and_eq_true, decide_eq_true_eq] at h2
    refine ⟨x.life, x.at_, ?_, h2.2⟩
    unfold nW
    rw [gW_of_mem h.nd h1]
    simp [h2.1]
  · rintro ⟨l, a, h1, h2⟩
    unfold nW at h1
    cases hg : gW L z with
    | none => rw [hg] at h1; cases h1
    | some x =>
      rw [hg] at h1
      obtain ⟨m1, m2⟩ := gW_mem hg
      by_cases hi : x.inn = true
      · simp [hi] at h1
        exact ⟨x, List.mem_filter.2 ⟨m1, by simp [hi]; omega⟩, m2⟩
      · simp [hi] at h1
theorem lateW_rises (L : List Wt) (t : Int) : RisesI (lateW L t) := (risen_spec _).1

theorem gf_none {L : List Wt} {a : Int} (h : gW L a = none) : fW L a = none := by
  cases hf : fW L a with
  | none => rfl
  | some k =>
    obtain ⟨x, _, _, h3⟩ := fW_some hf
    rw [h] at h3; cases h3
theorem gf_some {L : List Wt} {a : Int} {x : Wt} (h : gW L a = some x) : ∃ k, fW L a = some k ∧ L[k]? = some x ∧ x.node = a := by
  cases hf : fW L a with
  | none => rw [fW_none hf] at h; cases h
  | some k =>
    obtain ⟨y, h1, h2, h3⟩ := fW_some hf
    rw [h] at h3
    cases h3
    exact ⟨k, rfl, h1, h2⟩
theorem nW_some {L : List Wt} {a l t : Int} (h : nW L a = some (l, t)) : ∃ k x, fW L a = some k ∧ gW L a = some x ∧ L[k]? = some x ∧ x.node = a ∧ x.inn = true ∧ x.life = l ∧ x.at_ = t := by
  unfold nW at h
  cases hg : gW L a with
  | none => rw [hg] at h; cases h
  | some x =>
    rw [hg] at h
    obtain ⟨k, h1, h2, h3⟩ := gf_some hg
    by_cases hi : x.inn = true
    · simp [hi] at h
      exact ⟨k, x, h1, rfl, h2, h3, hi, h.1, h.2⟩
    · simp [hi] at h
theorem nW_of {L : List Wt} {b : Int} {x : Wt} (h : gW L b = some x) : nW L b = if x.inn then some (x.life, x.at_) else none := by unfold nW; rw [h]; rfl
theorem mW_of {L : List Wt} {b : Int} {x : Wt} (h : gW L b = some x) : mW L b = some x.most := by unfold mW; rw [h]; rfl

/-- One entry is laid anew. -/
def putW (L : List Wt) (a : Int) (f : Wt → Wt) : List Wt := match fW L a, gW L a with | some k, some x => L.set k (f x) | _, _ => L
theorem putW_some {L : List Wt} {a : Int} {f : Wt → Wt} {k : Nat} {x : Wt} (h1 : fW L a = some k) (h2 : gW L a = some x) : putW L a f = L.set k (f x) := by unfold putW; rw [h1, h2]
theorem putW_none {L : List Wt} {a : Int} {f : Wt → Wt} (h1 : fW L a = none) : putW L a f = L := by unfold putW; rw [h1]
theorem gW_putW {L : List Wt} {a : Int} {f : Wt → Wt} {x : Wt} (h : gW L a = some x) (hf : (f x).node = a) (b : Int) : gW (putW L a f) b = if b = a then some (f x) else gW L b := by
  obtain ⟨k, h1, h2, h3⟩ := gf_some h
  rw [putW_some h1 h, gW_set b (by rw [hf]; exact h1), hf]
theorem OkW.put {L : List Wt} (h : OkW L) {a : Int} {f : Wt → Wt} (hf : ∀ x ∈ L, x.node = a → (f x).node = a ∧ mayB (f x).life = true ∧ mayB (f x).at_ = true ∧ mayB (f x).most = true) : OkW (putW L a f) := by
  cases hg : gW L a with
  | none => rw [putW_none (gf_none hg)]; exact h
  | some x =>
    obtain ⟨k, h1, h2, h3⟩ := gf_some hg
    rw [putW_some h1 hg]
    obtain ⟨e1, e2⟩ := hf x (List.mem_of_getElem? h2) h3
    exact h.set h2 (by rw [e1, h3]) e2
theorem putW_len (L : List Wt) (a : Int) (f : Wt → Wt) : (putW L a f).length = L.length := by
  unfold putW
  split <;> simp

/-- A node is heard of. -/
def later (s t : Int) : Int := if s < t then t else s
def hearW (L : List Wt) (a t : Int) : List Wt := putW L a fun x => { x with at_ := later x.at_ t }
theorem hear_n {L : List Wt} {a l s t : Int} (h : nW L a = some (l, s)) (b : Int) : nW (hearW L a t) b = if b = a then some (l, later s t) else nW L b := by
  obtain ⟨k, x, h1, h2, h3, h4, h5, rfl, rfl⟩ := nW_some h
  have hg := gW_putW (f := fun x => { x with at_ := later x.at_ t }) h2 h4 b
  by_cases hb : b = a
  · rw [if_pos hb] at hg ⊢
    rw [hearW, nW_of hg]
    simp [h5]
  · rw [if_neg hb] at hg ⊢
    rw [hearW]
    unfold nW
    rw [hg]
theorem hear_m {L : List Wt} {a l s t : Int} (h : nW L a = some (l, s)) (b : Int) : mW (hearW L a t) b = mW L b := by
  obtain ⟨k, x, h1, h2, h3, h4, h5, rfl, rfl⟩ := nW_some h
  have hg := gW_putW (f := fun x => { x with at_ := later x.at_ t }) h2 h4 b
  by_cases hb : b = a
  · subst hb
    rw [if_pos rfl] at hg
    rw [hearW, mW_of hg, mW_of h2]
  · rw [if_neg hb] at hg
    rw [hearW]
    unfold mW
    rw [hg]
theorem OkW.hear {L : List Wt} (h : OkW L) {a t : Int} (ht : mayB t = true) : OkW (hearW L a t) :=
  h.put fun x hx hn => ⟨hn, (h.lf x hx).1, by unfold later; show mayB (if _ then _ else _) = true; split; exact ht; exact (h.lf x hx).2.1, (h.lf x hx).2.2.1⟩
/-- A node is watched no more. -/
def outW (L : List Wt) (a : Int) : List Wt := putW L a fun x => { x with inn := false }
theorem out_n (L : List Wt) (a b : Int) : nW (outW L a) b = if b = a then none else nW L b := by
  cases hg : gW L a with
  | none =>
    rw [outW, putW_none (gf_none hg)]
    by_cases hb : b = a
    · subst hb; rw [if_pos rfl]; unfold nW; rw [hg]; rfl
    · rw [if_neg hb]
  | some x =>
    obtain ⟨k, h1, h2, h3⟩ := gf_some hg
    have hp := gW_putW (f := fun x => { x with inn := false }) hg h3 b
    by_cases hb : b = a
    · rw [if_pos hb] at hp ⊢
      rw [outW, nW_of hp]
      rfl
    · rw [if_neg hb] at hp ⊢
      rw [outW]
      unfold nW
      rw [hp]
theorem out_m (L : List Wt) (a b : Int) : mW (outW L a) b = mW L b := by
  cases hg : gW L a with
  | none => rw [outW, putW_none (gf_none hg)]
  | some x =>
    obtain ⟨k, h1, h2, h3⟩ := gf_some hg
    have hp := gW_putW (f := fun x => { x with inn := false }) hg h3 b
    by_cases hb : b = a
    · subst hb
      rw [if_pos rfl] at hp
      rw [outW, mW_of hp, mW_of hg]
    · rw [if_neg hb] at hp
      rw [outW]
      unfold mW
      rw [hp]
theorem OkW.out {L : List Wt} (h : OkW L) {a : Int} : OkW (outW L a) := h.put fun x hx hn => ⟨hn, (h.lf x hx).1, (h.lf x hx).2.1, (h.lf x hx).2.2.1⟩
def outsW (L : List Wt) (l : List Int) : List Wt := l.foldl outW L
theorem outs_snoc (L : List Wt) (l : List Int) (a : Int) : outsW L (l ++ [a]) = outW (outsW L l) a := by simp [outsW, List.foldl_append]
theorem OkW.outs {L : List Wt} (h : OkW L) : ∀ (l : List Int), OkW (outsW L l) := by
  intro l
  induction l generalizing L with
  | nil => exact h
  | cons a l ih => exact ih h.out
theorem outs_len : ∀ (l : List Int) (L : List Wt), (outsW L l).length = L.length
  | [], L => rfl
  | a :: l, L => by show (outsW (outW L a) l).length = _; rw [outs_len l, outW, putW_len]
/-- A node is watched. -/
def entW (a life now : Int) : Wt := ⟨a, life, now, life, true⟩
def inW (L : List Wt) (a life now : Int) : List Wt := match fW L a with | some k => L.set k (entW a life now) | none => L ++ [entW a life now]
theorem in_g (L : List Wt) (a life now b : Int) : gW (inW L a life now) b = if b = a then some (entW a life now) else gW L b := by
  unfold inW
  cases h : fW L a with
  | none => exact gW_app (x := entW a life now) b h
  | some k => exact gW_set (x := entW a life now) b h
theorem in_n (L : List Wt) (a life now b : Int) : nW (inW L a life now) b = if b = a then some (life, now) else nW L b := by
  have := in_g L a life now b
  by_cases hb : b = a
  · rw [if_pos hb] at this ⊢; rw [nW_of this]; rfl
  · rw [if_neg hb] at this ⊢; unfold nW; rw [this]
theorem in_m (L : List Wt) (a life now b : Int) : mW (inW L a life now) b = if b = a then some life else mW L b := by
  have := in_g L a life now b
  by_cases hb : b = a
  · rw [if_pos hb] at this ⊢; rw [mW_of this]; rfl
  · rw [if_neg hb] at this ⊢; unfold mW; rw [this]
theorem OkW.inn {L : List Wt} (h : OkW L) {a life now : Int} (ha : i64 a) (h1 : mayB life = true) (h2 : mayB now = true) : OkW (inW L a life now) := by
  unfold inW
  cases hf : fW L a with
  | none => exact h.app (x := entW a life now) hf ⟨h1, h2, h1, ha⟩
  | some k =>
    obtain ⟨x, e1, e2, _⟩ := fW_some hf
    exact h.set (x := entW a life now) e1 e2.symm ⟨h1, h2, h1⟩
theorem in_len (L : List Wt) (a life now : Int) : (inW L a life now).length ≤ L.length + 1 := by
  unfold inW
  split <;> simp
/-- Those that are watched from the beginning. -/
def addW (L : List Wt) (a : Int) : List Wt := match fW L a with | some _ => L | none => L ++ [entW a 1 0]
def newW (l : List Int) : List Wt := l.foldl addW []
theorem new_snoc (l : List Int) (a : Int) : newW (l ++ [a]) = addW (newW l) a := by simp [newW, List.foldl_append]
def Fresh (L : List Wt) : Prop := ∀ x ∈ L, x = entW x.node 1 0
theorem Fresh.add {L : List Wt} (h : Fresh L) (a : Int) : Fresh (addW L a) := by
  unfold addW
  split
  · exact h
  · intro x hx
    rcases List.mem_append.1 hx with hx | hx
    · exact h x hx
    · simp at hx; subst hx; rfl
theorem fresh_new (l : List Int) : Fresh (newW l) := by
  have : ∀ (l : List Int) (L : List Wt), Fresh L → Fresh (l.foldl addW L) := by
    intro l
    induction l with
    | nil => intro L h; exact h
    | cons a l ih => intro L h; exact ih _ (h.add a)
  exact this l [] (fun x h => by cases h)
theorem add_g {L : List Wt} (h : Fresh L) (a b : Int) : gW (addW L a) b = if b = a then some (entW a 1 0) else gW L b := by
  unfold addW
  cases hf : fW L a with
  | none => exact gW_app (x := entW a 1 0) b hf
  | some k =>
    obtain ⟨x, h1, h2, h3⟩ := fW_some hf
    have hx := h x (List.mem_of_getElem? h1)
    by_cases hb : b = a
    · subst hb; rw [if_pos rfl]; show gW L b = _; rw [h3, hx, h2]
    · rw [if_neg hb]
theorem add_n {L : List Wt} (h : Fresh L) (a b : Int) : nW (addW L a) b = if b = a then some (1, 0) else nW L b := by
  have := add_g h a b
  by_cases hb : b = a
  · rw [if_pos hb] at this ⊢; rw [nW_of this]; rfl
  · rw [if_neg hb] at this ⊢; unfold nW; rw [this]
theorem add_m {L : List Wt} (h : Fresh L) (a b : Int) : mW (addW L a) b = if b = a then some 1 else mW L b := by
  have := add_g h a b
  by_cases hb : b = a
  · rw [if_pos hb] at this ⊢; rw [mW_of this]; rfl
  · rw [if_neg hb] at this ⊢; unfold mW; rw [this]
theorem OkW.add {L : List Wt} (h : OkW L) {a : Int} (ha : i64 a) : OkW (addW L a) := by
  unfold addW
  split
  · exact h
  · rename_i hf
    exact h.app (x := entW a 1 0) hf ⟨rfl, rfl, rfl, ha⟩
theorem ok_new {l : List Int} (h : ∀ x ∈ l, i64 x) : OkW (newW l) := by
  have : ∀ (l : List Int) (L : List Wt), (∀ x ∈ l, i64 x) → OkW L → OkW (l.foldl addW L) := by
    intro l
    induction l with
    | nil => intro L _ h; exact h
    | cons a l ih => intro L hl h; exact ih _ (fun x hx => hl x (by simp [hx])) (h.add (hl a (by simp)))
  exact this l [] h OkW.nil
theorem new_len : ∀ (l : List Int), (newW l).length ≤ l.length := by
  have : ∀ (l : List Int) (L : List Wt), (l.foldl addW L).length ≤ L.length + l.length := by
    intro l
    induction l with
    | nil => intro L; simp
    | cons a l ih =>
      intro L
      have h1 := ih (addW L a)
      have h2 : (addW L a).length ≤ L.length + 1 := by unfold addW; split <;> simp
      rw [List.foldl_cons, List.length_cons]
      omega
  intro l
  have := this l []
  simpa [newW] using this

/-- What the calls answer. -/
def heardB (L : List Wt) (a life now : Int) : Bool := match nW L a with | some p => decide (p.1 = life) && (mayB life && mayB now) | none => false
def inB (L : List Wt) (a life now : Int) : Bool := (nW L a).isNone && (mayB life && mayB now) && (match mW L a with | some m => decide (m < life) | none => true)
end Go.Proofs.Ytfpkhpdbfkclgaa
