/-
  Notes as plain Lean: what a kind has, what may be one, its bytes, what bytes are read as.
-/
import Derived.Test.YtflaliomkfbagaaCurState
import Derived.Test.YtflaliomkfbagaaIdentPlain
import Derived.Test.YtflaliomkfbagaaTexts
namespace Go.Proofs.Ytflaliomkfbagaa
open Go.RowKit
set_option linter.unusedVariables false
set_option linter.unusedSimpArgs false

abbrev Mb := Int × Int
structure Nt where
  (kind node life epoch : Int)
  id : ByteArray
  fn : Int
  args : List Int
  (err val vep : Int)
  mems : List Mb
def Nt.zero : Nt := ⟨0, 0, 0, 0, ⟨#[]⟩, 0, [], 0, 0, 0, []⟩
def Nt.ofKind (k : Int) : Nt := { Nt.zero with kind := k }
/-- The parts of a kind: 0 epoch, 1 life, 2 node, 3 id, 4 function, 5 result, 6 view. -/
def partsL (k : Int) : List Int :=
  if k = 1 then [2, 1] else if k = 2 then [6] else if k = 3 then [0, 2] else if k = 4 then [0, 1, 3, 4] else if k = 5 then [0, 1, 2, 3]
  else if k = 6 then [0, 1, 2, 3] else if k = 7 then [0, 2, 3, 5] else if k = 8 then [3, 5] else if k = 9 then [2, 3] else if k = 10 then [0, 2, 3, 4] else []
def isK (k : Int) : Bool := decide (1 ≤ k) && decide (k ≤ 10)
theorem isK_iff {k : Int} : isK k = true ↔ 1 ≤ k ∧ k ≤ 10 := by simp [isK]
theorem kinds {k : Int} (h : isK k = true) : k = 1 ∨ k = 2 ∨ k = 3 ∨ k = 4 ∨ k = 5 ∨ k = 6 ∨ k = 7 ∨ k = 8 ∨ k = 9 ∨ k = 10 := by
  have := isK_iff.1 h
  omega
theorem parts_no {k : Int} (h : isK k = false) : partsL k = [] := by
  have h1 : ¬ (1 ≤ k ∧ k ≤ 10) := fun e => by rw [isK_iff.2 e] at h; cases h
  unfold partsL
  repeat rw [if_neg (by omega)]
theorem parts_len (k : Int) : (partsL k).length ≤ 4 := by
  cases h : isK k with
  | false => rw [parts_no h]; simp
  | true => rcases kinds h with rfl | rfl | rfl | rfl | rfl | rfl | rfl | rfl | rfl | rfl <;> decide
theorem parts_in {k p : Int} (h : p ∈ partsL k) : p = 0 ∨ p = 1 ∨ p = 2 ∨ p = 3 ∨ p = 4 ∨ p = 5 ∨ p = 6 := by
  cases hk : isK k with
  | false => rw [parts_no hk] at h; cases h
  | true =>
    rcases kinds hk with rfl | rfl | rfl | rfl | rfl | rfl | rfl | rfl | rfl | rfl <;> (simp [partsL] at h; omega)

/-- One part, taken over. -/
def setP (n o : Nt) (p : Int) : Nt :=
  if p = 0 then { o with epoch := n.epoch } else if p = 1 then { o with life := n.life } else if p = 2 then { o with node := n.node } else if p = 3 then { o with id := n.id }
  else if p = 4 then { o with fn := n.fn, args := n.args } else if p = 5 then { o with err := n.err, val := n.val } else { o with vep := n.vep, mems := n.mems }
def Nt.clear (n : Nt) : Nt := if isK n.kind then (partsL n.kind).foldl (setP n) (Nt.ofKind n.kind) else Nt.zero

def upto (m x : Int) : Bool := decide (0 ≤ x) && decide (x ≤ m)
theorem upto_iff {m x : Int} : upto m x = true ↔ 0 ≤ x ∧ x ≤ m := by simp [upto]
abbrev great : Int := 2147483647
def endB (e v : Int) : Bool := (e == 0 || e == 25) || (decide (20 ≤ e) && decide (e < 25) && v == 0)
def memsB : Int → List Mb → Bool
  | _, [] => true
  | a, m :: r => decide (a < m.1) && upto 15 m.1 && upto great m.2 && memsB m.1 r
def viewB (L : List Mb) : Bool := memsB (-1) L && decide (L.length ≤ 16)
/-- May a note (its own clear) be? -/
def Nt.may (n : Nt) : Bool :=
  isK n.kind && upto 15 n.node && (upto great n.life && upto great n.epoch && upto great n.vep) && vid n.id && upto 31 n.fn && decide (n.args.length ≤ 8) && endB n.err n.val && viewB n.mems

def idL (s : ByteArray) : List UInt8 := s.data.toList
def memB (m : Mb) : List UInt8 := num m.1 ++ num m.2
/-- The bytes of a part. -/
def putP (n : Nt) (p : Int) : List UInt8 :=
  if p = 0 then num n.epoch else if p = 1 then num n.life else if p = 2 then num n.node else if p = 3 then text (idL n.id)
  else if p = 4 then num n.fn ++ (num n.args.length ++ nums n.args) else if p = 5 then num n.err ++ num n.val else num n.vep ++ (num n.mems.length ++ n.mems.flatMap memB)
def Nt.bytes (n : Nt) : List UInt8 := num n.kind ++ (partsL n.kind).flatMap (putP n)
def Nt.packErr (n : Nt) : Int := if n.clear.may then 0 else 1
def Nt.pack (n : Nt) : List UInt8 := if n.clear.may then n.clear.bytes else []

theorem clear_kind (n : Nt) (h : isK n.kind = true) : n.clear.kind = n.kind := by
  unfold Nt.clear
  rw [if_pos h]
  generalize partsL n.kind = l
  have : ∀ (l : List Int) (o : Nt), (l.foldl (setP n) o).kind = o.kind := by
    intro l
    induction l with
    | nil => intro o; rfl
    | cons p l ih =>
      intro o
      rw [List.foldl_cons, ih]
      unfold setP
      repeat' split
      all_goals rfl
  exact this l _
theorem clear_clear (n : Nt) : n.clear.clear = n.clear := by
  cases h : isK n.kind with
  | false =>
    have : n.clear = Nt.zero := by unfold Nt.clear; rw [h]; rfl
    rw [this]
    rfl
  | true =>
    obtain ⟨k, node, life, epoch, id, fn, args, err, val, vep, mems⟩ := n
    simp only at h
    rcases kinds h with rfl | rfl | rfl | rfl | rfl | rfl | rfl | rfl | rfl | rfl <;> rfl
theorem may_kind {n : Nt} (h : n.may = true) : isK n.kind = true := by
  unfold Nt.may at h
  simp only [Bool.and_eq_true] at h
  exact h.1.1.1.1.1.1.1

/-! ### Reading -/
def cnt (most x : Int) : Nat := (min (max 0 x) (most + 1)).toNat
def getI : Nat → List UInt8 → Bool → List Int × List UInt8 × Bool
  | 0, R, bad => ([], R, bad)
  | k + 1, R, bad =>
    let c := cInt R bad
    let r := getI k c.2.1 c.2.2
    (c.1 :: r.1, r.2)
def getM : Nat → List UInt8 → Bool → List Mb × List UInt8 × Bool
  | 0, R, bad => ([], R, bad)
  | k + 1, R, bad =>
    let c := cInt R bad
    let d := cInt c.2.1 c.2.2
    let r := getM k d.2.1 d.2.2
    ((c.1, d.1) :: r.1, r.2)
theorem getI_nums : ∀ (l : List Int), (∀ x ∈ l, i64 x) → ∀ R, getI l.length (nums l ++ R) false = (l, R, false)
  | [], _, R => rfl
  | x :: l, h, R => by
    have e : nums (x :: l) ++ R = num x ++ (nums l ++ R) := by simp [nums]
    unfold getI
    simp only [List.length_cons]
    rw [e, cInt_num (h x (List.mem_cons_self ..))]
    simp only
    rw [getI_nums l (fun y hy => h y (List.mem_cons_of_mem _ hy))]
theorem getM_mems : ∀ (L : List Mb), (∀ m ∈ L, i64 m.1 ∧ i64 m.2) → ∀ R, getM L.length (L.flatMap memB ++ R) false = (L, R, false)
  | [], _, R => rfl
  | m :: L, h, R => by
    have e : (m :: L).flatMap memB ++ R = num m.1 ++ (num m.2 ++ (L.flatMap memB ++ R)) := by simp [memB]
    obtain ⟨h1, h2⟩ := h m (List.mem_cons_self ..)
    unfold getM
    simp only [List.length_cons]
    rw [e, cInt_num h1]
    simp only
    rw [cInt_num h2]
    simp only
    rw [getM_mems L (fun y hy => h y (List.mem_cons_of_mem _ hy))]
/-- The state of a reading: the note so far, what is left, whether something was none. -/
abbrev St := Nt × List UInt8 × Bool
def getP (s : St) (p : Int) : St :=
  let c := cInt s.2.1 s.2.2
  if p = 0 then ({ s.1 with epoch := c.1 }, c.2)
  else if p = 1 then ({ s.1 with life := c.1 }, c.2)
  else if p = 2 then ({ s.1 with node := c.1 }, c.2)
  else if p = 3 then (let t := cBytes s.2.1 s.2.2; ({ s.1 with id := ⟨t.1.toArray⟩ }, t.2))
  else if p = 4 then (let d := cInt c.2.1 c.2.2; let r := getI (cnt 8 d.1) d.2.1 d.2.2; ({ s.1 with fn := c.1, args := s.1.args ++ r.1 }, r.2))
  else if p = 5 then (let d := cInt c.2.1 c.2.2; ({ s.1 with err := c.1, val := d.1 }, d.2))
  else (let d := cInt c.2.1 c.2.2; let r := getM (cnt 16 d.1) d.2.1 d.2.2; ({ s.1 with vep := c.1, mems := s.1.mems ++ r.1 }, r.2))
def readRaw (b : List UInt8) : St :=
  let c := cInt b false
  (partsL c.1).foldl getP (Nt.ofKind c.1, c.2)
/-- The ints of a note are machine ints. -/
structure Nt.ok (n : Nt) : Prop where
  kind : i64 n.kind
  node : i64 n.node
  life : i64 n.life
  epoch : i64 n.epoch
  fn : i64 n.fn
  args : ∀ x ∈ n.args, i64 x
  err : i64 n.err
  val : i64 n.val
  vep : i64 n.vep
  mems : ∀ m ∈ n.mems, i64 m.1 ∧ i64 m.2
  id : n.id.size ≤ maxLen
theorem getP_put {n : Nt} (hok : n.ok) (hm : n.may = true) (o : Nt) {p : Int} (hp : p = 0 ∨ p = 1 ∨ p = 2 ∨ p = 3 ∨ p = 4 ∨ p = 5 ∨ p = 6) (ha : o.args = []) (hv : o.mems = []) (R : List UInt8) :
    getP (o, putP n p ++ R, false) p = (setP n o p, R, false) := by
  unfold Nt.may viewB at hm
  simp only [Bool.and_eq_true, decide_eq_true_eq] at hm
  obtain ⟨⟨⟨⟨⟨⟨⟨_, h1⟩, h2⟩, h3⟩, h4⟩, h5⟩, h6⟩, h7, h8⟩ := hm
  have hid := vid_small h3
  rcases hp with rfl | rfl | rfl | rfl | rfl | rfl | rfl
  · unfold getP putP setP
    simp only [if_true]
    rw [cInt_num hok.epoch]
  · unfold getP putP setP
    simp only [if_true, Int.reduceEq, if_false]
    rw [cInt_num hok.life]
  · unfold getP putP setP
    simp only [if_true, Int.reduceEq, if_false]
    rw [cInt_num hok.node]
  · unfold getP putP setP
    simp only [if_true, Int.reduceEq, if_false]
    have hl : (idL n.id).length ≤ 9223372036854775807 := by
      have e : (idL n.id).length = n.id.size := by unfold idL; rw [Array.length_toList]; rfl
      omega
    unfold text
    rw [cBytes_text hl]
    unfold idL
    simp
  · unfold getP putP setP
    simp only [if_true, Int.reduceEq, if_false]
    have hl : i64 (n.args.length : Int) := by unfold i64; omega
    have hcn : cnt 8 (n.args.length : Int) = n.args.length := by unfold cnt; omega
    rw [List.append_assoc, cInt_num hok.fn]
    simp only
    rw [List.append_assoc, cInt_num hl]
    simp only
    rw [hcn, getI_nums _ hok.args, ha]
    rfl
  · unfold getP putP setP
    simp only [if_true, Int.reduceEq, if_false]
    rw [List.append_assoc, cInt_num hok.err]
    simp only
    rw [cInt_num hok.val]
  · unfold getP putP setP
    simp only [if_true, Int.reduceEq, if_false]
    have hl : i64 (n.mems.length : Int) := by unfold i64; omega
    have hcn : cnt 16 (n.mems.length : Int) = n.mems.length := by unfold cnt; omega
    rw [List.append_assoc, cInt_num hok.vep]
    simp only
    rw [List.append_assoc, cInt_num hl]
    simp only
    rw [hcn, getM_mems _ hok.mems, hv]
    rfl
/-- A note's bytes are read as it. -/
theorem readRaw_bytes {n : Nt} (hok : n.ok) (hm : n.may = true) (R : List UInt8) : readRaw (n.bytes ++ R) = (n.clear, R, false) := by
  have hK := may_kind hm
  unfold readRaw Nt.bytes Nt.clear
  rw [List.append_assoc, cInt_num hok.kind, if_pos hK]
  simp only
  have key : ∀ k, isK k = true → (partsL k).foldl getP (Nt.ofKind k, (partsL k).flatMap (putP n) ++ R, false) = ((partsL k).foldl (setP n) (Nt.ofKind k), R, false) := by
    intro k hk
    rcases kinds hk with rfl | rfl | rfl | rfl | rfl | rfl | rfl | rfl | rfl | rfl
    · rw [show partsL 1 = [2, 1] from rfl]
      simp only [List.foldl_cons, List.foldl_nil, List.flatMap_cons, List.flatMap_nil, List.append_nil, List.append_assoc]
      rw [getP_put hok hm, getP_put hok hm]
      all_goals first | rfl | omega
    · rw [show partsL 2 = [6] from rfl]
      simp only [List.foldl_cons, List.foldl_nil, List.flatMap_cons, List.flatMap_nil, List.append_nil, List.append_assoc]
      rw [getP_put hok hm]
      all_goals first | rfl | omega
    · rw [show partsL 3 = [0, 2] from rfl]
      simp only [List.foldl_cons, List.foldl_nil, List.flatMap_cons, List.flatMap_nil, List.append_nil, List.append_assoc]
      rw [getP_put hok hm, getP_put hok hm]
      all_goals first | rfl | omega
    · rw [show partsL 4 = [0, 1, 3, 4] from rfl]
      simp only [List.foldl_cons, List.foldl_nil, List.flatMap_cons, List.flatMap_nil, List.append_nil, List.append_assoc]
      rw [getP_put hok hm, getP_put hok hm, getP_put hok hm, getP_put hok hm]
      all_goals first | rfl | omega
    · rw [show partsL 5 = [0, 1, 2, 3] from rfl]
      simp only [List.foldl_cons, List.foldl_nil, List.flatMap_cons, List.flatMap_nil, List.append_nil, List.append_assoc]
      rw [getP_put hok hm, getP_put hok hm, getP_put hok hm, getP_put hok hm]
      all_goals first | rfl | omega
    · rw [show partsL 6 = [0, 1, 2, 3] from rfl]
      simp only [List.foldl_cons, List.foldl_nil, List.flatMap_cons, List.flatMap_nil, List.append_nil, List.append_assoc]
      rw [getP_put hok hm, getP_put hok hm, getP_put hok hm, getP_put hok hm]
      all_goals first | rfl | omega
    · rw [show partsL 7 = [0, 2, 3, 5] from rfl]
      simp only [List.foldl_cons, List.foldl_nil, List.flatMap_cons, List.flatMap_nil, List.append_nil, List.append_assoc]
      rw [getP_put hok hm, getP_put hok hm, getP_put hok hm, getP_put hok hm]
      all_goals first | rfl | omega
    · rw [show partsL 8 = [3, 5] from rfl]
      simp only [List.foldl_cons, List.foldl_nil, List.flatMap_cons, List.flatMap_nil, List.append_nil, List.append_assoc]
      rw [getP_put hok hm, getP_put hok hm]
      all_goals first | rfl | omega
    · rw [show partsL 9 = [2, 3] from rfl]
      simp only [List.foldl_cons, List.foldl_nil, List.flatMap_cons, List.flatMap_nil, List.append_nil, List.append_assoc]
      rw [getP_put hok hm, getP_put hok hm]
      all_goals first | rfl | omega
    · rw [show partsL 10 = [0, 2, 3, 4] from rfl]
      simp only [List.foldl_cons, List.foldl_nil, List.flatMap_cons, List.flatMap_nil, List.append_nil, List.append_assoc]
      rw [getP_put hok hm, getP_put hok hm, getP_put hok hm, getP_put hok hm]
      all_goals first | rfl | omega
  exact key _ hK

/-! ### What bytes are as a note -/
/-- The note that has the bytes, if there is one. -/
def IsNote (b : List UInt8) (n : Nt) : Prop := n.ok ∧ n.clear = n ∧ n.may = true ∧ n.bytes = b
theorem IsNote.raw {b : List UInt8} {n : Nt} (h : IsNote b n) : readRaw b = (n, [], false) := by
  obtain ⟨h1, h2, h3, h4⟩ := h
  have := readRaw_bytes h1 h3 []
  rw [List.append_nil, h4, h2] at this
  exact this
theorem IsNote.uniq {b : List UInt8} {n m : Nt} (h : IsNote b n) (h2 : IsNote b m) : n = m := by
  have := h.raw
  rw [h2.raw] at this
  simp only [Prod.mk.injEq, and_true] at this
  exact this.symm
theorem IsNote.prefix {b R : List UInt8} {n m : Nt} (h : IsNote b n) (h2 : IsNote (b ++ R) m) : R = [] := by
  have h3 := readRaw_bytes h.1 h.2.2.1 R
  rw [h.2.2.2, h2.raw] at h3
  simp only [Prod.mk.injEq, and_true] at h3
  exact h3.2.symm
theorem clear_ok {n : Nt} (h : n.ok) : n.clear.ok := by
  have h0 : i64 0 := by unfold i64; omega
  have hz : Nt.zero.ok := ⟨h0, h0, h0, h0, h0, (fun x hx => by cases hx), h0, h0, h0, (fun m hm => by cases hm), by decide⟩
  unfold Nt.clear
  split
  · have hs : ∀ (l : List Int) (o : Nt), o.ok → (l.foldl (setP n) o).ok := by
      intro l
      induction l with
      | nil => intro o ho; exact ho
      | cons p l ih =>
        intro o ho
        rw [List.foldl_cons]
        refine ih _ ?_
        unfold setP
        repeat' split
        · exact ⟨ho.kind, ho.node, ho.life, h.epoch, ho.fn, ho.args, ho.err, ho.val, ho.vep, ho.mems, ho.id⟩
        · exact ⟨ho.kind, ho.node, h.life, ho.epoch, ho.fn, ho.args, ho.err, ho.val, ho.vep, ho.mems, ho.id⟩
        · exact ⟨ho.kind, h.node, ho.life, ho.epoch, ho.fn, ho.args, ho.err, ho.val, ho.vep, ho.mems, ho.id⟩
        · exact ⟨ho.kind, ho.node, ho.life, ho.epoch, ho.fn, ho.args, ho.err, ho.val, ho.vep, ho.mems, h.id⟩
        · exact ⟨ho.kind, ho.node, ho.life, ho.epoch, h.fn, h.args, ho.err, ho.val, ho.vep, ho.mems, ho.id⟩
        · exact ⟨ho.kind, ho.node, ho.life, ho.epoch, ho.fn, ho.args, h.err, h.val, ho.vep, ho.mems, ho.id⟩
        · exact ⟨ho.kind, ho.node, ho.life, ho.epoch, ho.fn, ho.args, ho.err, ho.val, h.vep, h.mems, ho.id⟩
    exact hs _ _ ⟨h.kind, hz.node, hz.life, hz.epoch, hz.fn, hz.args, hz.err, hz.val, hz.vep, hz.mems, hz.id⟩
  · exact hz
theorem IsNote.of_clear {n : Nt} (h : n.ok) (hm : n.clear.may = true) : IsNote n.clear.bytes n.clear := ⟨clear_ok h, clear_clear n, hm, rfl⟩
end Go.Proofs.Ytflaliomkfbagaa
