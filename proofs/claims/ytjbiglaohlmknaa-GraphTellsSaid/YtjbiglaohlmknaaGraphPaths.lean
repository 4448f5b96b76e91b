/-
  graph: ways over lines, and what a search breadth first finds; plain Lean.
-/
import Derived.Test.YtjbiglaohlmknaaGraphPlain
namespace Go.Proofs.Ytjbiglaohlmknaa
set_option linter.unusedVariables false
set_option linter.unusedSimpArgs false

/-- y can be gone to from x in one line. -/
def adj (nodes : Int) (gone : List Int) (x y : Int) : Prop := y ∈ linesG nodes x ∧ y ∉ gone
/-- A way of n lines from a to y over none that is gone (a itself aside). -/
inductive Way (nodes : Int) (gone : List Int) (a : Int) : Nat → Int → Prop where
  | here : Way nodes gone a 0 a
  | next {n : Nat} {x y : Int} : Way nodes gone a n x → adj nodes gone x y → Way nodes gone a (n + 1) y

def updF (D : Int → Int) (y v : Int) : Int → Int := fun z => if z = y then v else D z
theorem updF_same (D : Int → Int) (y v : Int) : updF D y v y = v := if_pos rfl
theorem updF_other {D : Int → Int} {y v z : Int} (h : z ≠ y) : updF D y v z = D z := if_neg h

theorem nodup_len : ∀ (N : Nat) (T : List Int), T.Nodup → (∀ y ∈ T, 0 ≤ y ∧ y < N) → T.length ≤ N
  | 0, T, _, h => by
    cases T with
    | nil => simp
    | cons y r => have := h y (by simp); omega
  | N + 1, T, hd, h => by
    by_cases hm : (N : Int) ∈ T
    · have h1 := nodup_len N (T.erase (N : Int)) (hd.erase _) fun y hy => by
        have h2 := (hd.mem_erase_iff).1 hy
        have := h y h2.2
        have := h2.1
        omega
      have h2 := List.length_erase_of_mem hm
      have := List.length_pos_of_mem hm
      omega
    · have h1 := nodup_len N T hd fun y hy => by
        have := h y hy
        have : y ≠ (N : Int) := fun e => hm (e ▸ hy)
        omega
      omega

/-- What a search knows: T is who was found, in that order; of the first k, and of the node x the ones in L, the lines were gone over. -/
structure Inv (nodes : Int) (gone : List Int) (a : Int) (D : Int → Int) (T : List Int) (k : Nat) (x : Int) (L : List Int) : Prop where
  nd : T.Nodup
  mem : ∀ y, y ∈ T ↔ 0 ≤ D y
  no : ∀ y, D y < 0 → D y = -1
  val : ∀ y ∈ T, 0 ≤ y ∧ y < nodes
  free : ∀ y ∈ T, y = a ∨ y ∉ gone
  at0 : D a = 0
  way : ∀ y ∈ T, Way nodes gone a (D y).toNat y
  asc : T.Pairwise (fun u v => D u ≤ D v)
  top : ∀ y ∈ T, D y ≤ D x + 1
  cur : T[k]? = some x
  old : ∀ j u, j < k → T[j]? = some u → ∀ y, adj nodes gone u y → 0 ≤ D y ∧ D y ≤ D u + 1
  now : ∀ y ∈ L, y ∉ gone → 0 ≤ D y ∧ D y ≤ D x + 1
  bd : ∀ y ∈ T, D y < T.length
theorem Inv.start {nodes a : Int} {gone : List Int} (h0 : 0 ≤ a) (h1 : a < nodes) : Inv nodes gone a (updF (fun _ => -1) a 0) [a] 0 a [] := by
  have hd : ∀ y, y ∈ [a] ↔ 0 ≤ updF (fun _ => -1) a 0 y := by
    intro y
    unfold updF
    by_cases h : y = a
    · rw [if_pos h]; simp [h]
    · rw [if_neg h]; simp [h]
  refine ⟨by simp, hd, ?_, ?_, ?_, updF_same _ _ _, ?_, by simp, ?_, rfl, (fun j u hj => by omega), (fun y hy => by cases hy), ?_⟩
  · intro y hy
    unfold updF at hy ⊢
    split
    · rename_i h; rw [if_pos h] at hy; omega
    · rfl
  · intro y hy; simp at hy; subst hy; exact ⟨h0, h1⟩
  · intro y hy; simp at hy; exact .inl hy
  · intro y hy; simp at hy; subst hy; rw [updF_same]; exact .here
  · intro y hy; simp at hy; subst hy; omega
  · intro y hy; simp at hy; subst hy; rw [updF_same]; simp
/-- The line to y leads to no new one. -/
theorem Inv.skip {nodes a x y : Int} {gone : List Int} {D : Int → Int} {T : List Int} {k : Nat} {L : List Int} (h : Inv nodes gone a D T k x L) (hy : 0 ≤ D y ∨ y ∈ gone) : Inv nodes gone a D T k x (L ++ [y]) := by
  refine ⟨h.nd, h.mem, h.no, h.val, h.free, h.at0, h.way, h.asc, h.top, h.cur, h.old, fun z hz hg => ?_, h.bd⟩
  rcases List.mem_append.1 hz with hz | hz
  · exact h.now z hz hg
  · simp at hz
    subst hz
    rcases hy with hy | hy
    · exact ⟨hy, h.top _ ((h.mem _).2 hy)⟩
    · exact (hg hy).elim
theorem Inv.found {nodes a x y : Int} {gone : List Int} {D : Int → Int} {T : List Int} {k : Nat} {L : List Int} (h : Inv nodes gone a D T k x L) (hl : y ∈ linesG nodes x) (hy : D y < 0) (hg : y ∉ gone) :
    Inv nodes gone a (updF D y (D x + 1)) (T ++ [y]) k x (L ++ [y]) := by
  have hyT : y ∉ T := fun hm => by have := (h.mem y).1 hm; omega
  have hxT : x ∈ T := List.mem_of_getElem? h.cur
  have hx0 : 0 ≤ D x := (h.mem x).1 hxT
  have hxy : x ≠ y := fun e => hyT (e ▸ hxT)
  have old : ∀ z ∈ T, updF D y (D x + 1) z = D z := fun z hz => updF_other fun e => hyT (e ▸ hz)
  have ox := old x hxT
  have hk : k < T.length := (List.getElem?_eq_some_iff.1 h.cur).1
  have ge : ∀ z, 0 ≤ D z → 0 ≤ updF D y (D x + 1) z ∧ updF D y (D x + 1) z = D z := fun z hz => by
    have := old z ((h.mem z).2 hz)
    rw [this]; exact ⟨hz, rfl⟩
  refine ⟨?_, ?_, ?_, ?_, ?_, ?_, ?_, ?_, ?_, ?_, ?_, ?_, ?_⟩
  · rw [List.nodup_append]
    exact ⟨h.nd, by simp, fun u hu v hv => by simp at hv; subst hv; exact fun e => hyT (e ▸ hu)⟩
  · intro z
    by_cases hz : z = y
    · subst hz
      rw [updF_same]
      simp; omega
    · rw [updF_other hz, ← h.mem z]
      simp [hz]
  · intro z hz
    by_cases e : z = y
    · subst e; rw [updF_same] at hz; omega
    · rw [updF_other e] at hz ⊢; exact h.no z hz
  · intro z hz
    rcases List.mem_append.1 hz with hz | hz
    · exact h.val z hz
    · simp at hz; subst hz; exact linesG_mem hl
  · intro z hz
    rcases List.mem_append.1 hz with hz | hz
    · exact h.free z hz
    · simp at hz; subst hz; exact .inr hg
  · have ha : a ∈ T := (h.mem a).2 (by rw [h.at0]; exact Int.le_refl _)
    rw [old a ha]; exact h.at0
  · intro z hz
    rcases List.mem_append.1 hz with hz | hz
    · rw [old z hz]; exact h.way z hz
    · simp at hz; subst hz
      rw [updF_same, show (D x + 1).toNat = (D x).toNat + 1 by omega]
      exact .next (h.way x hxT) ⟨hl, hg⟩
  · rw [List.pairwise_append]
    refine ⟨?_, by simp, ?_⟩
    · exact List.Pairwise.imp_of_mem (fun {u v} hu hv huv => by rw [old u hu, old v hv]; exact huv) h.asc
    · intro u hu v hv
      simp at hv; subst hv
      rw [updF_same, old u hu]
      exact h.top u hu
  · intro z hz
    rw [ox]
    rcases List.mem_append.1 hz with hz | hz
    · rw [old z hz]; exact h.top z hz
    · simp at hz; subst hz; rw [updF_same]; exact Int.le_refl _
  · rw [List.getElem?_append_left hk]; exact h.cur
  · intro j u hj hu z hz
    rw [List.getElem?_append_left (by omega)] at hu
    have h1 := h.old j u hj hu z hz
    rw [(ge z h1.1).2, old u (List.mem_of_getElem? hu)]
    exact h1
  · intro z hz hgz
    rw [ox]
    rcases List.mem_append.1 hz with hz | hz
    · have h1 := h.now z hz hgz
      rw [(ge z h1.1).2]; exact h1
    · simp at hz; subst hz; rw [updF_same]; exact ⟨by omega, Int.le_refl _⟩
  · intro z hz
    have hbx := h.bd x hxT
    rw [List.length_append, List.length_singleton]
    rcases List.mem_append.1 hz with hz | hz
    · have := h.bd z hz; rw [old z hz]; omega
    · simp at hz; subst hz; rw [updF_same]; omega
/-- All lines of x were gone over, and there is a next one. -/
theorem Inv.next {nodes a x x2 : Int} {gone : List Int} {D : Int → Int} {T : List Int} {k : Nat} (h : Inv nodes gone a D T k x (linesG nodes x)) (hx : T[k + 1]? = some x2) : Inv nodes gone a D T (k + 1) x2 [] := by
  have hk := List.getElem?_eq_some_iff.1 h.cur
  have hk2 := List.getElem?_eq_some_iff.1 hx
  have hle : D x ≤ D x2 := by
    have := List.pairwise_iff_getElem.1 h.asc k (k + 1) hk.1 hk2.1 (by omega)
    rw [hk.2, hk2.2] at this
    exact this
  refine ⟨h.nd, h.mem, h.no, h.val, h.free, h.at0, h.way, h.asc, fun y hy => by have := h.top y hy; omega, hx, fun j u hj hu y hy => ?_, (fun y hy => by cases hy), h.bd⟩
  by_cases hjk : j < k
  · exact h.old j u hjk hu y hy
  · obtain rfl : j = k := by omega
    rw [h.cur] at hu
    cases hu
    exact h.now y hy.1 hy.2
/-- How far each is. -/
structure Fin (nodes : Int) (gone : List Int) (a : Int) (D : Int → Int) : Prop where
  no : ∀ y, D y < 0 → D y = -1
  way : ∀ y, 0 ≤ D y → Way nodes gone a (D y).toNat y
  least : ∀ n y, Way nodes gone a n y → 0 ≤ D y ∧ D y ≤ n
  val : ∀ y, 0 ≤ D y → 0 ≤ y ∧ y < nodes
  free : ∀ y, 0 ≤ D y → y = a ∨ y ∉ gone
  bd : ∀ y, D y ≤ 0 ∨ D y ≤ nodes
theorem Inv.len {nodes a x : Int} {gone : List Int} {D : Int → Int} {T : List Int} {k : Nat} {L : List Int} (h : Inv nodes gone a D T k x L) : (T.length : Int) ≤ nodes := by
  have hx := h.val x (List.mem_of_getElem? h.cur)
  have := nodup_len nodes.toNat T h.nd fun y hy => by have := h.val y hy; omega
  omega
theorem Inv.fin {nodes a x : Int} {gone : List Int} {D : Int → Int} {T : List Int} {k : Nat} (h : Inv nodes gone a D T k x (linesG nodes x)) (hx : T.length ≤ k + 1) : Fin nodes gone a D := by
  refine ⟨h.no, fun y hy => h.way y ((h.mem y).2 hy), fun n y hw => ?_, fun y hy => h.val y ((h.mem y).2 hy), fun y hy => h.free y ((h.mem y).2 hy), fun y => ?_⟩
  rotate_left
  · by_cases hy : 0 ≤ D y
    · have := h.bd y ((h.mem y).2 hy)
      have := h.len
      omega
    · omega
  induction hw with
  | here => rw [h.at0]; exact ⟨Int.le_refl _, Int.le_refl _⟩
  | @next n u v hu huv ih =>
    obtain ⟨j, hj, hju⟩ := List.getElem_of_mem ((h.mem u).2 ih.1)
    have hu2 : T[j]? = some u := by rw [List.getElem?_eq_getElem hj, hju]
    have h1 : 0 ≤ D v ∧ D v ≤ D u + 1 := by
      by_cases hjk : j < k
      · exact h.old j u hjk hu2 v huv
      · obtain rfl : j = k := by omega
        rw [h.cur] at hu2
        cases hu2
        exact h.now v huv.1 huv.2
    exact ⟨h1.1, by have := ih.2; omega⟩
theorem Fin.one {nodes a : Int} {gone : List Int} {D E : Int → Int} (h : Fin nodes gone a D) (g : Fin nodes gone a E) (y : Int) : D y = E y := by
  by_cases h1 : 0 ≤ D y
  · have h2 := g.least _ _ (h.way y h1)
    have h3 := h.least _ _ (g.way y h2.1)
    omega
  · by_cases h2 : 0 ≤ E y
    · exact (h1 (h.least _ _ (g.way y h2)).1).elim
    · rw [h.no y (by omega), g.no y (by omega)]
end Go.Proofs.Ytjbiglaohlmknaa
