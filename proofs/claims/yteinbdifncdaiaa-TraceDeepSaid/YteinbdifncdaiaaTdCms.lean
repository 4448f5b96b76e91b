/-
  Rows of commits: api.Commit; gleanerref4.SameResult.
  What entries mean, and which commits are right: plain.
  A tree by hand: its first task takes what its kids come to: plain.
-/
import Derived.Test.YteinbdifncdaiaaRows
import Derived.Test.YteinbdifncdaiaaTdRow
import Derived.Test.YteinbdifncdaiaaTdLaw
import Derived.Test.YteinbdifncdaiaaTdDeepCode
namespace Go.Proofs.Yteinbdifncdaiaa
open Go.RowKit
set_option linter.unusedVariables false
set_option linter.unusedSimpArgs false

abbrev rkC : RowKind Try.prog where
  t := 25
  e := 34
  z := .agg #[.string ⟨#[]⟩, .int .i64 0, .int .i64 0]
  size := 3
  bytes := 32
  ht := Try.underlying25
  info := by kernel_rfl
  hz := rfl
  hs := by decide
  hb := by decide

/-- A commit: a name, an error, a value. -/
abbrev Cm := ByteArray × Int × Int
def cellC (c : Cm) : List Value := [.string c.1, .int .i64 c.2.1, .int .i64 c.2.2]
def cv (T : List Cm) : List Value := T.flatMap cellC
theorem cellC_len (c : Cm) : (cellC c).length = 3 := rfl
theorem cellC_one (c : Cm) : ∀ u ∈ cellC c, u.oneCell' = true := by
  intro u hu
  simp only [cellC, List.mem_cons, List.not_mem_nil, or_false] at hu
  rcases hu with rfl | rfl | rfl <;> rfl
theorem cv_one (T : List Cm) : ∀ u ∈ cv T, u.oneCell' = true := flat_one cellC_one T
theorem cv_snoc (T : List Cm) (c : Cm) : cv (T ++ [c]) = cv T ++ cellC c := flat_snoc _ _ _

theorem sameRes_any (a b c d : Int) (w : World) :
    Calls Try.prog 23 #[.agg #[.int .i64 a, .int .i64 b], .agg #[.int .i64 c, .int .i64 d]] w fun e w2 => e = .returned (.bool (decide (a = c) && decide (b = d))) ∧ Chg Non w w2 := by
  have hC : Chg Non w ((w.alloc (.cells #[.int .i64 a, .int .i64 b] 30)).alloc (.cells #[.int .i64 c, .int .i64 d] 30)) := ((Chg.refl _ _).alloc _).alloc _
  by_cases h1 : a = c
  · subst h1
    by_cases h2 : b = d
    · subst h2
      go_enter Try.func23, Try.ntmps23
      go_wp2_with fail
      go_ret
      exact ⟨by simp, hC⟩
    · have e2 : (b == d) = false := beq_eq_false_iff_ne.2 h2
      have H2 := Lib.hid h2
      clear h2
      go_enter Try.func23, Try.ntmps23
      go_wp2_with fail
      go_ret
      exact ⟨by simp [H2.out], hC⟩
  · have e1 : (a == c) = false := beq_eq_false_iff_ne.2 h1
    have H1 := Lib.hid h1
    clear h1
    go_enter Try.func23, Try.ntmps23
    go_wp2_with fail
    go_ret
    exact ⟨by simp [H1.out], hC⟩

/-- An entry: its cells, and what its awaits read as. -/
structure Ent where
  id : ByteArray
  fn : Int
  gA : Option Addr
  gn : Nat
  gc : Nat
  err : Int
  val : Int
  steps : Int
  kids : Int
  aA : Option Addr
  an : Nat
  ac : Nat
  aw : List Int
def entC (e : Ent) : List Value := [.string e.id, .int .i64 e.fn, .slice e.gA e.gn e.gc, .int .i64 e.err, .int .i64 e.val, .int .i64 e.steps, .int .i64 e.kids, .slice e.aA e.an e.ac]
def entV (e : Ent) : Value := .agg #[.string e.id, .int .i64 e.fn, .slice e.gA e.gn e.gc, .int .i64 e.err, .int .i64 e.val, .int .i64 e.steps, .int .i64 e.kids, .slice e.aA e.an e.ac]
def evs (L : List Ent) : List Value := L.flatMap entC
theorem entC_len (e : Ent) : (entC e).length = 8 := rfl
theorem entC_one (e : Ent) : ∀ u ∈ entC e, u.oneCell' = true := by
  intro u hu
  simp only [entC, List.mem_cons, List.not_mem_nil, or_false] at hu
  rcases hu with rfl | rfl | rfl | rfl | rfl | rfl | rfl | rfl <;> rfl
theorem evs_snoc (L : List Ent) (e : Ent) : evs (L ++ [e]) = evs L ++ entC e := flat_snoc _ _ _
theorem evs_one (L : List Ent) : ∀ u ∈ evs L, u.oneCell' = true := flat_one entC_one L

/-- Is a name in a list? -/
def inB (L : List ByteArray) (s : ByteArray) : Bool := L.any fun x => decide (x = s)
theorem inB_true {L : List ByteArray} {s : ByteArray} : inB L s = true ↔ s ∈ L := by
  unfold inB
  rw [List.any_eq_true]
  constructor
  · rintro ⟨x, h1, h2⟩
    rw [← of_decide_eq_true h2]
    exact h1
  · exact fun h => ⟨s, h, decide_eq_true rfl⟩
theorem inB_false {L : List ByteArray} {s : ByteArray} : inB L s = false ↔ s ∉ L := by
  rw [← Bool.not_eq_true, inB_true]
theorem inB_snoc (L : List ByteArray) (x s : ByteArray) : inB (L ++ [x]) s = (inB L s || decide (x = s)) := by simp [inB]

def oneOf (E : List Ent) (id : ByteArray) : Option Ent := E.find? fun x => decide (x.id = id)
theorem oneOf_snoc_in {E : List Ent} {x y : Ent} {id : ByteArray} (h : oneOf E id = some y) : oneOf (E ++ [x]) id = some y := by
  unfold oneOf at *
  rw [List.find?_append, h]
  rfl
theorem oneOf_snoc_out {E : List Ent} {x : Ent} {id : ByteArray} (h : oneOf E id = none) : oneOf (E ++ [x]) id = if x.id = id then some x else none := by
  unfold oneOf at *
  rw [List.find?_append, h, List.find?_cons]
  by_cases e : x.id = id <;> simp [e]
theorem oneOf_mem {E : List Ent} {id : ByteArray} {x : Ent} (h : oneOf E id = some x) : x ∈ E ∧ x.id = id := by
  unfold oneOf at h
  exact ⟨List.mem_of_find?_eq_some h, by simpa using List.find?_some h⟩
/-- Does all that an entry takes stand ahead? -/
def goes (x : Ent) (ahead : List ByteArray) : Bool := x.aw.all fun k => (kid x.id k).2 && inB ahead (kid x.id k).1
def fine (E : List Ent) (ahead : List ByteArray) (c : Cm) : Bool :=
  match oneOf E c.1 with
  | none => false
  | some x => decide (x.err = c.2.1) && decide (x.val = c.2.2) && !inB ahead c.1 && goes x ahead
def ids (l : List Cm) : List ByteArray := l.map (·.1)
theorem ids_snoc (l : List Cm) (c : Cm) : ids (l ++ [c]) = ids l ++ [c.1] := by simp [ids]
def fineAt (E : List Ent) (l : List Cm) (k : Nat) : Bool :=
  match l[k]? with
  | some c => fine E (ids (l.take k)) c
  | none => true
def chk (E : List Ent) (l : List Cm) : Option Nat := (List.range l.length).find? fun k => !fineAt E l k
/-- The first place at which commits are wrong. -/
def chkP (E : List Ent) (l : List Cm) : Int × Bool :=
  match chk E l with
  | some k => ((k : Int), false)
  | none => (0, true)
theorem chk_some {E : List Ent} {l : List Cm} {k : Nat} (hk : k < l.length) (hno : ∀ j, j < k → fineAt E l j = true) (hx : fineAt E l k = false) : chkP E l = ((k : Int), false) := by
  have : chk E l = some k := by
    unfold chk
    rw [List.find?_range_eq_some]
    refine ⟨by simp [hx], by simpa using hk, fun j hj => by simp [hno j hj]⟩
  unfold chkP
  rw [this]
theorem chk_none {E : List Ent} {l : List Cm} (hno : ∀ j, j < l.length → fineAt E l j = true) : chkP E l = (0, true) := by
  have : chk E l = none := by
    unfold chk
    rw [List.find?_range_eq_none]
    intro j hj
    simp [hno j hj]
  unfold chkP
  rw [this]
theorem fineAt_of {E : List Ent} {l : List Cm} {k : Nat} {c : Cm} (h : l[k]? = some c) : fineAt E l k = fine E (ids (l.take k)) c := by
  unfold fineAt
  rw [h]
/-- The entries that are not committed. -/
def leftOf (E : List Ent) (l : List Cm) : List ByteArray := (E.filter fun x => !inB (ids l) x.id).map (·.id)
theorem leftOf_snoc (E : List Ent) (x : Ent) (l : List Cm) : leftOf (E ++ [x]) l = if inB (ids l) x.id then leftOf E l else leftOf E l ++ [x.id] := by
  unfold leftOf
  rw [List.filter_append, List.map_append]
  cases h : inB (ids l) x.id <;> simp [h]
theorem leftOf_len (E : List Ent) (l : List Cm) : (leftOf E l).length ≤ E.length := by
  unfold leftOf
  rw [List.length_map]
  exact List.length_filter_le _ _

/-- An entry that reads as it should. -/
def EntOk (w : World) (x : Ent) : Prop := Rds w 1 x.aA x.an (iv x.aw) ∧ x.an ≤ 1000000 ∧ x.id.size ≤ maxLen ∧ ∀ k ∈ x.aw, i64 k
/-- A slice of entries. -/
structure EntRow (w : World) (A : Option Addr) (n : Nat) (E : List Ent) : Prop where
  row : Rds w 8 A n (evs E)
  ok : ∀ x ∈ E, EntOk w x
theorem EntRow.non {w w2 : World} {A : Option Addr} {n : Nat} {E : List Ent} (h : EntRow w A n E) (hc : Chg Non w w2) : EntRow w2 A n E :=
  ⟨h.row.non hc, fun x hx => ⟨(h.ok x hx).1.non hc, (h.ok x hx).2⟩⟩
theorem EntRow.len {w : World} {A : Option Addr} {n : Nat} {E : List Ent} (h : EntRow w A n E) : n = E.length := flat_eq entC_len (by decide) h.row

def one (i : Nat) : ByteArray := ⟨#[UInt8.ofNat i]⟩
def e0 : ByteArray := ⟨#[]⟩
theorem one_inj {i j : Nat} (hi : i < 256) (hj : j < 256) (h : one i = one j) : i = j := by
  have h2 : (one i).data.toList = (one j).data.toList := by rw [h]
  have h3 : UInt8.ofNat i = UInt8.ofNat j := by simpa [one] using h2
  have h4 := congrArg UInt8.toNat h3
  rw [UInt8.toNat_ofNat', UInt8.toNat_ofNat'] at h4
  omega
theorem one_e0 (i : Nat) : one i ≠ e0 := by
  intro h
  have h2 : (one i).data.toList.length = e0.data.toList.length := by rw [h]
  simp [one, e0] at h2

def headE (A : Option Addr) (c n kids : Nat) : Ent := { id := e0, fn := 0, gA := none, gn := 0, gc := 0, err := 0, val := 100, steps := 0, kids := 0, aA := A, an := n, ac := c, aw := (List.range kids).map fun i : Nat => (i : Int) }
def kidE (i : Nat) : Ent := { id := one i, fn := 0, gA := none, gn := 0, gc := 0, err := 0, val := (i : Int), steps := 0, kids := 0, aA := none, an := 0, ac := 0, aw := [] }
def tree (A : Option Addr) (c n kids : Nat) : List Ent := headE A c n kids :: (List.range kids).map kidE
def headC : Cm := (e0, 0, 100)
def kidC (i : Nat) : Cm := (one i, 0, (i : Int))
theorem tree_len (A : Option Addr) (c n kids : Nat) : (tree A c n kids).length = kids + 1 := by simp [tree]
theorem tree_kid {A : Option Addr} {c n kids i : Nat} (h : i < kids) : (tree A c n kids)[i + 1]? = some (kidE i) := by simp [tree, h]

section
variable {A : Option Addr} {c n kids : Nat} (hk : kids ≤ 16)
include hk
theorem oneOf_kid {i : Nat} (hi : i < kids) : oneOf (tree A c n kids) (one i) = some (kidE i) := by
  unfold oneOf tree
  rw [List.find?_cons]
  have h1 : decide ((headE A c n kids).id = one i) = false := decide_eq_false (fun e => one_e0 i e.symm)
  rw [h1]
  simp only
  rw [List.find?_map]
  have : List.find? ((fun x : Ent => decide (x.id = one i)) ∘ kidE) (List.range kids) = some i := by
    rw [List.find?_range_eq_some]
    refine ⟨by simp [kidE], by simpa using hi, fun j hj => ?_⟩
    have : one j ≠ one i := fun e => by have := one_inj (by omega) (by omega) e; omega
    show (!decide (one j = one i)) = true
    rw [decide_eq_false this]
    rfl
  rw [this]
  rfl
omit hk in
theorem oneOf_head : oneOf (tree A c n kids) e0 = some (headE A c n kids) := by
  unfold oneOf tree
  rw [List.find?_cons]
  have h1 : decide ((headE A c n kids).id = e0) = true := decide_eq_true rfl
  rw [h1]
omit hk in
theorem oneOf_out {s : ByteArray} (h0 : s ≠ e0) (h : ∀ i, i < kids → one i ≠ s) : oneOf (tree A c n kids) s = none := by
  unfold oneOf
  rw [List.find?_eq_none]
  intro x hx
  simp only [tree, List.mem_cons, List.mem_map, List.mem_range] at hx
  rcases hx with rfl | ⟨i, hi, rfl⟩
  · rw [decide_eq_true_eq]
    exact fun e => h0 e.symm
  · rw [decide_eq_true_eq]
    exact h i hi
theorem fine_kid {ahead : List ByteArray} {i : Nat} (hi : i < kids) {e v : Int} : fine (tree A c n kids) ahead (one i, e, v) = (decide (0 = e) && decide ((i : Int) = v) && !inB ahead (one i)) := by
  unfold fine
  simp only
  rw [oneOf_kid hk hi]
  show (decide (0 = e) && decide ((i : Int) = v) && !inB ahead (one i) && true) = _
  rw [Bool.and_true]
omit hk in
theorem kid_e0 {i : Nat} (hi : i < 16) : kid e0 (i : Int) = (one i, true) := by
  unfold kid
  rw [if_pos ⟨rfl, by decide, by omega, by omega⟩]
  rfl
theorem fine_head {ahead : List ByteArray} : fine (tree A c n kids) ahead headC = (!inB ahead e0 && (List.range kids).all fun i => inB ahead (one i)) := by
  unfold fine headC
  simp only
  rw [oneOf_head]
  unfold goes
  have : (headE A c n kids).aw.all (fun k => (kid (headE A c n kids).id k).2 && inB ahead (kid (headE A c n kids).id k).1) = (List.range kids).all fun i => inB ahead (one i) := by
    rw [Bool.eq_iff_iff]
    simp only [headE, List.all_map, List.all_eq_true, Function.comp, List.mem_range]
    constructor
    · intro h i hi
      have := h i hi
      rw [kid_e0 (show i < 16 by omega)] at this
      simpa using this
    · intro h i hi
      rw [kid_e0 (show i < 16 by omega)]
      simpa using h i hi
  show (decide ((0 : Int) = 0) && decide ((100 : Int) = 100) && !inB ahead e0 && (headE A c n kids).aw.all (fun k => (kid (headE A c n kids).id k).2 && inB ahead (kid (headE A c n kids).id k).1)) = _
  rw [this]
  simp
end
end Go.Proofs.Yteinbdifncdaiaa
