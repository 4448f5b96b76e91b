/-
  Members one behind the other; quiet calls.
-/
import Derived.Test.YtclpmadecibofaaNoteMay
namespace Go.Proofs.Ytclpmadecibofaa
open Go.RowKit
set_option linter.unusedVariables false
set_option linter.unusedSimpArgs false

theorem addr_add0 (a : Addr) : a.add 0 = a := by cases a; rfl
theorem quietW {P : Program} {f : FuncId} {args : Array Value} {w : World} {n : Nat} {v : Value}
    (h : Calls P f args (w.drewN n) fun e w' => e = .returned v ∧ w.drewN n = w') : Calls P f args (w.drewN n) fun e w'' => e = .returned v ∧ ∃ m, w'' = w.drewN m :=
  h.mono fun _ _ ⟨he, hm⟩ => ⟨he, n, hm.symm⟩

/-- The member ahead of place k. -/
def lastM (L : List Mb) (k : Nat) : Int := match k with | 0 => -1 | j + 1 => (L[j]?.map (·.1)).getD 0
theorem lastM_succ {L : List Mb} {k : Nat} {m : Mb} (h : L[k]? = some m) : lastM L (k + 1) = m.1 := by show (L[k]?.map (·.1)).getD 0 = _; rw [h]; rfl
theorem lastM_cons (x : Mb) (L : List Mb) (k : Nat) : lastM (x :: L) (k + 2) = lastM L (k + 1) := rfl
theorem memsB_snoc (m : Mb) : ∀ (l : List Mb) (a : Int), memsB a (l ++ [m]) = (memsB a l && (decide ((l.getLast?.map (·.1)).getD a < m.1) && upto 15 m.1 && upto great m.2))
  | [], a => by simp only [List.nil_append, memsB, Bool.and_true, List.getLast?_nil, Option.map_none, Option.getD_none, Bool.true_and]; rfl
  | [x], a => by simp only [List.cons_append, List.nil_append, memsB, Bool.and_true, List.getLast?_singleton, Option.map_some, Option.getD_some, Bool.and_assoc]; rfl
  | x :: y :: l, a => by
    have ih := memsB_snoc m (y :: l) x.1
    show (decide (a < x.1) && upto 15 x.1 && upto great x.2 && memsB x.1 ((y :: l) ++ [m])) = _
    rw [ih, List.getLast?_cons_cons]
    have e : memsB a (x :: y :: l) = (decide (a < x.1) && upto 15 x.1 && upto great x.2 && memsB x.1 (y :: l)) := rfl
    rw [e]
    have e2 : (((y :: l).getLast?.map (·.1)).getD x.1) = (((y :: l).getLast?.map (·.1)).getD a) := by rw [List.getLast?_eq_some_getLast (l := y :: l) (by simp)]; rfl
    rw [e2]
    simp only [Bool.and_assoc]
theorem last_take {L : List Mb} {k : Nat} (hk : k ≤ L.length) : ((L.take k).getLast?.map (·.1)).getD (-1) = lastM L k := by
  cases k with
  | zero => rfl
  | succ j =>
    have h : L[j]? = some L[j] := List.getElem?_eq_getElem (by omega)
    have h9 : lastM L (j + 1) = L[j].1 := lastM_succ h
    rw [h9, List.take_add_one, h]
    show ((L.take j ++ [L[j]]).getLast?.map (·.1)).getD (-1) = _
    rw [List.getLast?_concat]
    rfl
/-- The test so far. -/
theorem memsB_take {L : List Mb} {k : Nat} {m : Mb} (h : L[k]? = some m) : memsB (-1) (L.take (k + 1)) = (memsB (-1) (L.take k) && (decide (lastM L k < m.1) && upto 15 m.1 && upto great m.2)) := by
  have hk := (List.getElem?_eq_some_iff.1 h).1
  rw [List.take_add_one, h]
  show memsB (-1) (L.take k ++ [m]) = _
  rw [memsB_snoc, last_take (by omega)]
end Go.Proofs.Ytclpmadecibofaa
