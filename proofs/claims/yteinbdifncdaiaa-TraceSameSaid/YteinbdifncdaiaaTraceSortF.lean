/-
  slices.SortFunc of a row of commits of the call's own: the rising order of its commits.
-/
import Derived.Test.YteinbdifncdaiaaTraceCmp
namespace Go.Proofs.Yteinbdifncdaiaa
open Go.RowKit Go.Sort Go.Shelf
set_option linter.unusedVariables false
set_option linter.unusedSimpArgs false

section
variable {w : World} {g n : Nat} {e : TypeId} {os : Array Obj} {cur : Array Value}
theorem holds_of_blockV {vs : List Value} (hb : w.heap[g]? = some (.cells cur e (0, 0))) (ht : cur.toList.take vs.length = vs) : Holds (id : Value → Value) w g 0 vs.toArray := by
  intro j hj
  have hj' : j < vs.length := by simpa using hj
  refine ⟨?_, by simp [World.frozen?, hb]⟩
  have h1 : (cur.toList.take vs.length)[j]? = vs[j]? := by rw [ht]
  rw [List.getElem?_take_of_lt hj'] at h1
  simp only [World.cell?, hb, Nat.zero_add]
  simp only [Option.isSome_none, Bool.false_eq_true, if_false]
  rw [← Array.getElem?_toList, h1]
  simp [hj']
theorem heap_sortedV {fr : Nat × Nat} (d : Array Value) (hb : w.heap[g]? = some (.cells cur e fr)) :
    (grow (putRow (id : Value → Value) (Sort.ahead w n) g 0 d) os).heap[g]? = some (.cells (putCells id 0 d cur) e fr) := by
  have hg : g < w.heap.size := (Array.getElem?_eq_some_iff.1 hb).1
  rw [heap_grow_old _ _ (by simpa using hg)]
  simp [putRow, mapBlock, Sort.ahead, Array.getElem?_modify, hb, onCells]
theorem grownBy_sortedV (d : Array Value) : w.grownBy (grow (putRow (id : Value → Value) (Sort.ahead w n) g 0 d) os) (some g) := by
  refine ⟨rfl, rfl, rfl, by simp, fun k hk hne => ?_⟩
  rw [heap_grow_old _ _ (by simpa using hk)]
  have : g ≠ k := fun e => hne (by rw [e])
  simp [putRow, mapBlock, Sort.ahead, Array.getElem?_modify, this]
theorem take_putCellsV (ts : List Value) (h : ts.length ≤ cur.size) : (putCells (id : Value → Value) 0 ts.toArray cur).toList.take ts.length = ts := by
  apply List.ext_getElem?
  intro j
  by_cases hj : j < ts.length
  · rw [List.getElem?_take_of_lt hj, Array.getElem?_toList]
    simp [putCells, hj, show j < cur.size by omega]
  · rw [List.getElem?_take_eq_none (by omega), List.getElem?_eq_none (by omega)]
end

theorem cv_length (L : List Cm) : (cv L).length = L.length * 3 := flat_len cellC_len L
theorem flatK_cv (L : List Cm) : flatK cellC 3 L.toArray = (cv L).toArray := by
  refine ext_get! (by simp [cv_length]) fun t ht => ?_
  have ht' : t < L.length * 3 := by simpa using ht
  rw [get_flatK _ _ _ t (by simpa using ht')]
  have hd : t / 3 < L.length := by omega
  have hx := List.getElem?_eq_getElem hd
  have hg := flat_get cellC_len L (t / 3) _ hx (t % 3) (Nat.mod_lt _ (by decide))
  rw [show t / 3 * 3 + t % 3 = t by omega] at hg
  have h1 : (L.toArray)[t / 3]! = L[t / 3] := by simp [hd]
  rw [h1]
  have h2 : ((cv L).toArray)[t]! = ((cv L)[t]?).getD default := by simp [Array.getElem!_eq_getD, Array.getD_eq_getD_getElem?]
  rw [h2, show cv L = L.flatMap cellC from rfl, hg]
  have h3 : t % 3 = 0 ∨ t % 3 = 1 ∨ t % 3 = 2 := by omega
  rcases h3 with h | h | h <;> rw [h] <;> rfl
def leC (x y : Cm) : Prop := ¬ ltC y x
/-- What the sort leaves: a rising order of the same commits. -/
def SortPost (w : World) (base : Nat) (v : Value) (n : Nat) (L : List Cm) (e : Ending) (w2 : World) : Prop :=
  e = .returned (.tuple #[]) ∧ ∃ M, M.Perm L ∧ M.Pairwise leC ∧ OwnR rkC w2 base v n (cv M) ∧ Chg (fun g => v.ownBlock = some g) w w2
theorem sortC_own (w : World) (base : Nat) (v : Value) (n : Nat) (L : List Cm) (h : OwnR rkC w base v n (cv L)) (h0 : 0 < n) (hn : n ≤ 1099511627776) :
    Calls Try.prog 39 #[v, .func (.func 40) #[] #[]] w (SortPost w base v n L) := by
  have hl : L.length = n := by have := h.len; rw [cv_length] at this; have e : (rkC).size = 3 := rfl; rw [e] at this; omega
  rcases h.2 with ⟨_, rfl⟩ | ⟨g, cap, cur, rfl, hbase, hb, h1, h2, h3, h4⟩
  · omega
  · subst hl
    have h4 : cur.toList.take (cv L).length = cv L := by rw [cv_length]; exact h4
    have hH : HoldsK cellC 3 w g 0 L.toArray := by unfold HoldsK; rw [flatK_cv]; exact holds_of_blockV hb h4
    have eg : ∀ args w, (callFunc 40 args).run Try.prog w = .ok (.enter 40 args) w := enters_of Try.func40 (by kernel_rfl) rfl
    have hcon := AnyQ.slices_SortFunc Try.sortf39 3 Try.isAgg34 Try.sizeOf34 cellC cellC_len cellC_one cmp3 swo3 40 #[] g 0 cap L.toArray w eg (fun _ _ _ _ x y => cmpC_any x y _) hH (Array.getElem?_eq_some_iff.1 hb).1 (by simp; omega)
    refine Calls.mono hcon ?_
    rintro e w2 ⟨rfl, d', q, os, hperm, hsort, rfl⟩
    have hpl : d'.toList.Perm L := by
      have h9 := hperm.2.2
      have e1 : (d'.extract 0 L.toArray.size).toList = d'.toList := by rw [← hperm.1]; simp
      have e2 : (L.toArray.extract 0 L.toArray.size).toList = L := by simp
      rw [e1, e2] at h9
      exact h9
    have hsz : d'.size = L.length := by rw [hperm.1]; simp
    have hpw : d'.toList.Pairwise leC := by
      rw [List.pairwise_iff_getElem]
      intro i j hi hj hij
      have h9 := hsort i j (Nat.zero_le _) hij (by simp at hj; simp; omega)
      rw [lt3_no] at h9
      simp only [Array.length_toList] at hi hj
      rw [getElem!_pos d' i hi, getElem!_pos d' j hj] at h9
      simp only [Array.getElem_toList]
      exact h9
    obtain ⟨M, rfl⟩ : ∃ M : List Cm, d' = M.toArray := ⟨d'.toList, by simp⟩
    have hMl : M.length = L.length := by simpa using hsz
    have hw : sortWorldK cellC 3 w g 0 q M.toArray os = grow (putRow (id : Value → Value) (Sort.ahead w q) g 0 (cv M).toArray) os := by unfold sortWorldK putRowK; rw [flatK_cv]
    rw [hw]
    have hcs : (cv M).length ≤ cur.size := by rw [cv_length, h3, hMl]; exact Nat.mul_le_mul_right _ h1
    refine ⟨rfl, M, by simpa using hpl, by simpa using hpw, ⟨by rw [cv_length, hMl], .inr ⟨g, cap, _, rfl, hbase, heap_sortedV _ hb, h1, h2, by simpa [putCells] using h3, ?_⟩⟩, Chg.of_grown (grownBy_sortedV _) |>.mono (fun b e => e)⟩
    have h9 := take_putCellsV (cur := cur) (cv M) hcs
    rw [cv_length, hMl] at h9
    exact h9
end Go.Proofs.Yteinbdifncdaiaa
