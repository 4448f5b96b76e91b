/-
  view.With's sort: slices.SortFunc of a row of members of the call's own, by node.
-/
import Derived.Test.YtojlglkefiddnaaKeys
import Derived.Test.YtojlglkefiddnaaView
namespace Go.Proofs.Ytojlglkefiddnaa
open Go.RowKit Go.Sort Go.Shelf
set_option linter.unusedVariables false
set_option linter.unusedSimpArgs false

section
variable {w : World} {g n : Nat} {e : TypeId} {os : Array Obj} {cur : Array Value}
theorem holds_of_blockV {vs : List Value} (hb : w.heap[g]? = some (.cells cur e (0, 0))) (ht : cur.toList.take vs.length = vs) : Holds (id : Value → Value) w g 0 vs.toArray := by
  intro j hj
  have hj' : j < vs.length := by simpa using hj
  refine ⟨?_, by simp [World.frozen?, hb]⟩
  have h1 : (cur.toList.take vs.length)[j]? = vs[j]? := by rw [ht]
  rw [List.getElem?_take_of_lt hj'] at h1
  simp only [World.cell?, hb, Nat.zero_add]
  simp only [Option.isSome_none, Bool.false_eq_true, if_false]
  rw [← Array.getElem?_toList, h1]
  simp [hj']
theorem heap_sortedV {fr : Nat × Nat} (d : Array Value) (hb : w.heap[g]? = some (.cells cur e fr)) :
    (grow (putRow (id : Value → Value) (Sort.ahead w n) g 0 d) os).heap[g]? = some (.cells (putCells id 0 d cur) e fr) := by
  have hg : g < w.heap.size := (Array.getElem?_eq_some_iff.1 hb).1
  rw [heap_grow_old _ _ (by simpa using hg)]
  simp [putRow, mapBlock, Sort.ahead, Array.getElem?_modify, hb, onCells]
theorem grownBy_sortedV (d : Array Value) : w.grownBy (grow (putRow (id : Value → Value) (Sort.ahead w n) g 0 d) os) (some g) := by
  refine ⟨rfl, rfl, rfl, by simp, fun k hk hne => ?_⟩
  rw [heap_grow_old _ _ (by simpa using hk)]
  have : g ≠ k := fun e => hne (by rw [e])
  simp [putRow, mapBlock, Sort.ahead, Array.getElem?_modify, this]
theorem take_putCellsV (ts : List Value) (h : ts.length ≤ cur.size) : (putCells (id : Value → Value) 0 ts.toArray cur).toList.take ts.length = ts := by
  apply List.ext_getElem?
  intro j
  by_cases hj : j < ts.length
  · rw [List.getElem?_take_of_lt hj, Array.getElem?_toList]
    simp [putCells, hj, show j < cur.size by omega]
  · rw [List.getElem?_take_eq_none (by omega), List.getElem?_eq_none (by omega)]
end

theorem flatK_mv (L : List Mb) : flatK cellM 2 L.toArray = (mv L).toArray := by
  refine ext_get! (by simp [mv_length]) fun t ht => ?_
  have ht' : t < L.length * 2 := by simpa using ht
  rw [get_flatK _ _ _ t (by simpa using ht')]
  have hd : t / 2 < L.length := by omega
  have hx := List.getElem?_eq_getElem hd
  have hg := flat_get cellM_len L (t / 2) _ hx (t % 2) (Nat.mod_lt _ (by decide))
  rw [show t / 2 * 2 + t % 2 = t by omega] at hg
  have h1 : (L.toArray)[t / 2]! = L[t / 2] := by simp [hd]
  rw [h1]
  have h2 : ((mv L).toArray)[t]! = ((mv L)[t]?).getD default := by simp [Array.getElem!_eq_getD, Array.getD_eq_getD_getElem?]
  rw [h2, show mv L = L.flatMap cellM from rfl, hg]
  rcases Nat.mod_two_eq_zero_or_one t with h | h <;> rw [h] <;> rfl

theorem ltN (x y : Mb) : ltOf (fun x y : Mb => Lib.compareInt x.1 y.1) x y = decide (x.1 < y.1) := by
  unfold ltOf Lib.compareInt
  by_cases h1 : x.1 < y.1
  · simp [h1]
  · by_cases h2 : y.1 < x.1 <;> simp [h1, h2]
theorem swoN : SWO (ltOf fun x y : Mb => Lib.compareInt x.1 y.1) where
  irrefl x := by rw [ltN]; simp
  trans x y z h1 h2 := by rw [ltN] at *; simp at *; omega
  ntrans x y z h1 h2 := by rw [ltN] at *; simp at *; omega

theorem isNaN_any (x : Int) (w : World) : Calls Try.prog 47 #[.int .i64 x] w fun e w2 => e = .returned (.bool false) ∧ w = w2 := by
  have h : (x != x) = false := bne_self_eq_false _
  go_enter Try.func47, Try.ntmps47
  go_wp2_with fail
  go_ret
  exact ⟨rfl, rfl⟩
theorem compare_any (x y : Int) (w : World) : Calls Try.prog 37 #[.int .i64 x, .int .i64 y] w fun e w2 => e = .returned (.int .i64 (Lib.compareInt x y)) ∧ w = w2 := by
  have hcase : (x < y ∧ Lib.compareInt x y = -1) ∨ (¬ x < y ∧ y < x ∧ Lib.compareInt x y = 1) ∨ (¬ x < y ∧ ¬ y < x ∧ Lib.compareInt x y = 0) := by
    unfold Lib.compareInt
    by_cases h1 : x < y
    · exact .inl ⟨h1, by simp [h1]⟩
    · by_cases h2 : y < x
      · exact .inr (.inl ⟨h1, h2, by simp [h1, h2]⟩)
      · exact .inr (.inr ⟨h1, h2, by simp [h1, h2]⟩)
  rcases hcase with ⟨h1, h2⟩ | ⟨h1, h3, h2⟩ | ⟨h1, h3, h2⟩
  all_goals
    rw [h2]
    clear h2
    go_enter Try.func37, Try.ntmps37
    go_wp2_with fail
    refine (isNaN_any _ _).mono ?_
    rintro e w2 ⟨rfl, rfl⟩
    go_wp2_with fail
    refine (isNaN_any _ _).mono ?_
    rintro e w2 ⟨rfl, rfl⟩
    go_wp2_with fail
    go_ret
    exact ⟨rfl, rfl⟩
theorem byNode_any (x y : Mb) (W : World) : Calls Try.prog 36 #[.agg #[.int .i64 x.1, .int .i64 x.2], .agg #[.int .i64 y.1, .int .i64 y.2]] W fun e w' => e = .returned (.int .i64 (Lib.compareInt x.1 y.1)) ∧ ∃ q os', w' = grow (W.drewN q) os' := by
  have hcon := fun W' => compare_any x.1 y.1 W'
  generalize Lib.compareInt x.1 y.1 = r at hcon ⊢
  go_enter Try.func36, Try.ntmps36
  go_wp2_with fail
  refine (hcon _).mono ?_
  rintro e w' ⟨rfl, rfl⟩
  go_wp2_with fail
  go_ret
  exact ⟨rfl, 0, _, by rw [alloc_eq_grow, alloc_eq_grow, grow_grow]; rfl⟩

/-- The row sorted: the one rising order of its members. -/
theorem sortM_own (w : World) (base : Nat) (v : Value) (n : Nat) (L M : List Mb) (h : OwnR rkM w base v n (mv L)) (h0 : 0 < n) (hn : n ≤ 1099511627776) (hp : M.Perm L) (hs : M.Pairwise fun a b => a.1 < b.1) :
    Calls Try.prog 35 #[v, .func (.func 36) #[] #[]] w fun e w2 => e = .returned (.tuple #[]) ∧ OwnR rkM w2 base v n (mv M) ∧ Chg (fun g => v.ownBlock = some g) w w2 := by
  have hl : L.length = n := by have := h.len; rw [mv_length] at this; have e : (rkM).size = 2 := rfl; rw [e] at this; omega
  have hMl := hp.length_eq
  rcases h.2 with ⟨_, rfl⟩ | ⟨g, cap, cur, rfl, hbase, hb, h1, h2, h3, h4⟩
  · omega
  · subst hl
    have h4 : cur.toList.take (mv L).length = mv L := by rw [mv_length]; exact h4
    have hH : HoldsK cellM 2 w g 0 L.toArray := by unfold HoldsK; rw [flatK_mv]; exact holds_of_blockV hb h4
    have eg : ∀ args w, (callFunc 36 args).run Try.prog w = .ok (.enter 36 args) w := enters_of Try.func36 (by kernel_rfl) rfl
    have hcon := AnyQ.slices_SortFunc Try.sortf35 2 Try.isAgg43 Try.sizeOf43 cellM cellM_len cellM_one (fun x y : Mb => Lib.compareInt x.1 y.1) swoN 36 #[] g 0 cap L.toArray w eg (fun _ _ _ _ x y => byNode_any x y _) hH (Array.getElem?_eq_some_iff.1 hb).1 (by simp; omega)
    refine Calls.mono hcon ?_
    rintro e w2 ⟨rfl, d', q, os, hperm, hsort, rfl⟩
    have hpl : d'.toList.Perm L := by
      have h9 := hperm.2.2
      have e1 : (d'.extract 0 L.toArray.size).toList = d'.toList := by rw [← hperm.1]; simp
      have e2 : (L.toArray.extract 0 L.toArray.size).toList = L := by simp
      rw [e1, e2] at h9
      exact h9
    have hsz : d'.size = L.length := by rw [hperm.1]; simp
    have hnd : (d'.toList.map (·.1)).Nodup := by
      have h9 : (M.map (·.1)).Nodup := by
        unfold List.Nodup
        rw [List.pairwise_map]
        exact hs.imp fun h => by omega
      exact ((hpl.trans hp.symm).map _).nodup_iff.2 h9
    have hpw : d'.toList.Pairwise fun a b => a.1 < b.1 := by
      rw [List.pairwise_iff_getElem]
      intro i j hi hj hij
      have h9 := hsort i j (Nat.zero_le _) hij (by simp at hj; simp; omega)
      rw [ltN] at h9
      simp only [Array.length_toList] at hi hj
      rw [getElem!_pos d' i hi, getElem!_pos d' j hj] at h9
      simp only [Array.getElem_toList]
      have hne : d'[i].1 ≠ d'[j].1 := by
        intro e
        have := List.pairwise_iff_getElem.1 hnd i j (by simpa using hi) (by simpa using hj) hij
        simp at this
        exact this e
      simp at h9
      omega
    have hdM : d'.toList = M := List.Perm.eq_of_pairwise (le := fun a b : Mb => a.1 < b.1) (fun a b _ _ h1 h2 => by omega) hpw hs (hpl.trans hp.symm)
    obtain rfl : d' = M.toArray := by rw [← hdM]
    have hw : sortWorldK cellM 2 w g 0 q M.toArray os = grow (putRow (id : Value → Value) (Sort.ahead w q) g 0 (mv M).toArray) os := by unfold sortWorldK putRowK; rw [flatK_mv]
    rw [hw]
    have hcs : (mv M).length ≤ cur.size := by rw [mv_length, h3, hMl]; exact Nat.mul_le_mul_right _ h1
    refine ⟨rfl, ⟨by rw [mv_length, hMl], .inr ⟨g, cap, _, rfl, hbase, heap_sortedV _ hb, h1, h2, by simpa [putCells] using h3, ?_⟩⟩, Chg.of_grown (grownBy_sortedV _) |>.mono (fun b e => e)⟩
    have h9 := take_putCellsV (cur := cur) (mv M) hcs
    rw [mv_length, hMl] at h9
    exact h9
end Go.Proofs.Ytojlglkefiddnaa
