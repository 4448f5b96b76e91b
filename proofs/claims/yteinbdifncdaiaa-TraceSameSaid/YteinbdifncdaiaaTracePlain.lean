/-
  What entries mean, and which commits are right: plain.
-/
import Derived.Test.YteinbdifncdaiaaIdentPlain
import Derived.Test.YteinbdifncdaiaaCms
import Derived.Test.YteinbdifncdaiaaRiseS
namespace Go.Proofs.Yteinbdifncdaiaa
open Go.RowKit
set_option linter.unusedVariables false
set_option linter.unusedSimpArgs false

/-- An entry: its cells, and what its awaits read as. -/
structure Ent where
  id : ByteArray
  fn : Int
  gA : Option Addr
  gn : Nat
  gc : Nat
  err : Int
  val : Int
  steps : Int
  kids : Int
  aA : Option Addr
  an : Nat
  ac : Nat
  aw : List Int
def entC (e : Ent) : List Value := [.string e.id, .int .i64 e.fn, .slice e.gA e.gn e.gc, .int .i64 e.err, .int .i64 e.val, .int .i64 e.steps, .int .i64 e.kids, .slice e.aA e.an e.ac]
def entV (e : Ent) : Value := .agg #[.string e.id, .int .i64 e.fn, .slice e.gA e.gn e.gc, .int .i64 e.err, .int .i64 e.val, .int .i64 e.steps, .int .i64 e.kids, .slice e.aA e.an e.ac]
def evs (L : List Ent) : List Value := L.flatMap entC
theorem entC_len (e : Ent) : (entC e).length = 8 := rfl
theorem entC_one (e : Ent) : ∀ u ∈ entC e, u.oneCell' = true := by
  intro u hu
  simp only [entC, List.mem_cons, List.not_mem_nil, or_false] at hu
  rcases hu with rfl | rfl | rfl | rfl | rfl | rfl | rfl | rfl <;> rfl
theorem evs_snoc (L : List Ent) (e : Ent) : evs (L ++ [e]) = evs L ++ entC e := flat_snoc _ _ _
theorem evs_one (L : List Ent) : ∀ u ∈ evs L, u.oneCell' = true := flat_one entC_one L

/-- Is a name in a list? -/
def inB (L : List ByteArray) (s : ByteArray) : Bool := L.any fun x => decide (x = s)
theorem inB_true {L : List ByteArray} {s : ByteArray} : inB L s = true ↔ s ∈ L := by
  unfold inB
  rw [List.any_eq_true]
  constructor
  · rintro ⟨x, h1, h2⟩
    rw [← of_decide_eq_true h2]
    exact h1
  · exact fun h => ⟨s, h, decide_eq_true rfl⟩
theorem inB_false {L : List ByteArray} {s : ByteArray} : inB L s = false ↔ s ∉ L := by
  rw [← Bool.not_eq_true, inB_true]
theorem inB_snoc (L : List ByteArray) (x s : ByteArray) : inB (L ++ [x]) s = (inB L s || decide (x = s)) := by simp [inB]

def oneOf (E : List Ent) (id : ByteArray) : Option Ent := E.find? fun x => decide (x.id = id)
theorem oneOf_snoc_in {E : List Ent} {x y : Ent} {id : ByteArray} (h : oneOf E id = some y) : oneOf (E ++ [x]) id = some y := by
  unfold oneOf at *
  rw [List.find?_append, h]
  rfl
theorem oneOf_snoc_out {E : List Ent} {x : Ent} {id : ByteArray} (h : oneOf E id = none) : oneOf (E ++ [x]) id = if x.id = id then some x else none := by
  unfold oneOf at *
  rw [List.find?_append, h, List.find?_cons]
  by_cases e : x.id = id <;> simp [e]
theorem oneOf_mem {E : List Ent} {id : ByteArray} {x : Ent} (h : oneOf E id = some x) : x ∈ E ∧ x.id = id := by
  unfold oneOf at h
  exact ⟨List.mem_of_find?_eq_some h, by simpa using List.find?_some h⟩
/-- Does all that an entry takes stand ahead? -/
def goes (x : Ent) (ahead : List ByteArray) : Bool := x.aw.all fun k => (kid x.id k).2 && inB ahead (kid x.id k).1
def fine (E : List Ent) (ahead : List ByteArray) (c : Cm) : Bool :=
  match oneOf E c.1 with
  | none => false
  | some x => decide (x.err = c.2.1) && decide (x.val = c.2.2) && !inB ahead c.1 && goes x ahead
def ids (l : List Cm) : List ByteArray := l.map (·.1)
theorem ids_snoc (l : List Cm) (c : Cm) : ids (l ++ [c]) = ids l ++ [c.1] := by simp [ids]
def fineAt (E : List Ent) (l : List Cm) (k : Nat) : Bool :=
  match l[k]? with
  | some c => fine E (ids (l.take k)) c
  | none => true
def chk (E : List Ent) (l : List Cm) : Option Nat := (List.range l.length).find? fun k => !fineAt E l k
/-- The first place at which commits are wrong. -/
def chkP (E : List Ent) (l : List Cm) : Int × Bool :=
  match chk E l with
  | some k => ((k : Int), false)
  | none => (0, true)
theorem chk_some {E : List Ent} {l : List Cm} {k : Nat} (hk : k < l.length) (hno : ∀ j, j < k → fineAt E l j = true) (hx : fineAt E l k = false) : chkP E l = ((k : Int), false) := by
  have : chk E l = some k := by
    unfold chk
    rw [List.find?_range_eq_some]
    refine ⟨by simp [hx], by simpa using hk, fun j hj => by simp [hno j hj]⟩
  unfold chkP
  rw [this]
theorem chk_none {E : List Ent} {l : List Cm} (hno : ∀ j, j < l.length → fineAt E l j = true) : chkP E l = (0, true) := by
  have : chk E l = none := by
    unfold chk
    rw [List.find?_range_eq_none]
    intro j hj
    simp [hno j hj]
  unfold chkP
  rw [this]
theorem fineAt_of {E : List Ent} {l : List Cm} {k : Nat} {c : Cm} (h : l[k]? = some c) : fineAt E l k = fine E (ids (l.take k)) c := by
  unfold fineAt
  rw [h]
/-- The entries that are not committed. -/
def leftOf (E : List Ent) (l : List Cm) : List ByteArray := (E.filter fun x => !inB (ids l) x.id).map (·.id)
theorem leftOf_snoc (E : List Ent) (x : Ent) (l : List Cm) : leftOf (E ++ [x]) l = if inB (ids l) x.id then leftOf E l else leftOf E l ++ [x.id] := by
  unfold leftOf
  rw [List.filter_append, List.map_append]
  cases h : inB (ids l) x.id <;> simp [h]
theorem leftOf_len (E : List Ent) (l : List Cm) : (leftOf E l).length ≤ E.length := by
  unfold leftOf
  rw [List.length_map]
  exact List.length_filter_le _ _

/-- An entry that reads as it should. -/
def EntOk (w : World) (x : Ent) : Prop := Rds w 1 x.aA x.an (iv x.aw) ∧ x.an ≤ 1000000 ∧ x.id.size ≤ maxLen ∧ ∀ k ∈ x.aw, i64 k
/-- A slice of entries. -/
structure EntRow (w : World) (A : Option Addr) (n : Nat) (E : List Ent) : Prop where
  row : Rds w 8 A n (evs E)
  ok : ∀ x ∈ E, EntOk w x
theorem EntRow.non {w w2 : World} {A : Option Addr} {n : Nat} {E : List Ent} (h : EntRow w A n E) (hc : Chg Non w w2) : EntRow w2 A n E :=
  ⟨h.row.non hc, fun x hx => ⟨(h.ok x hx).1.non hc, (h.ok x hx).2⟩⟩
theorem EntRow.len {w : World} {A : Option Addr} {n : Nat} {E : List Ent} (h : EntRow w A n E) : n = E.length := flat_eq entC_len (by decide) h.row
end Go.Proofs.Yteinbdifncdaiaa
