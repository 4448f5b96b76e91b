/-
  A tree by hand: its first task takes what its kids come to: plain.
-/
import Derived.Test.YteinbdifncdaiaaTracePlain
namespace Go.Proofs.Yteinbdifncdaiaa
open Go.RowKit
set_option linter.unusedVariables false
set_option linter.unusedSimpArgs false

def one (i : Nat) : ByteArray := ⟨#[UInt8.ofNat i]⟩
def e0 : ByteArray := ⟨#[]⟩
theorem one_inj {i j : Nat} (hi : i < 256) (hj : j < 256) (h : one i = one j) : i = j := by
  have h2 : (one i).data.toList = (one j).data.toList := by rw [h]
  have h3 : UInt8.ofNat i = UInt8.ofNat j := by simpa [one] using h2
  have h4 := congrArg UInt8.toNat h3
  rw [UInt8.toNat_ofNat', UInt8.toNat_ofNat'] at h4
  omega
theorem one_e0 (i : Nat) : one i ≠ e0 := by
  intro h
  have h2 : (one i).data.toList.length = e0.data.toList.length := by rw [h]
  simp [one, e0] at h2

def headE (A : Option Addr) (c n kids : Nat) : Ent := { id := e0, fn := 0, gA := none, gn := 0, gc := 0, err := 0, val := 100, steps := 0, kids := 0, aA := A, an := n, ac := c, aw := (List.range kids).map fun i : Nat => (i : Int) }
def kidE (i : Nat) : Ent := { id := one i, fn := 0, gA := none, gn := 0, gc := 0, err := 0, val := (i : Int), steps := 0, kids := 0, aA := none, an := 0, ac := 0, aw := [] }
def tree (A : Option Addr) (c n kids : Nat) : List Ent := headE A c n kids :: (List.range kids).map kidE
def headC : Cm := (e0, 0, 100)
def kidC (i : Nat) : Cm := (one i, 0, (i : Int))
theorem tree_len (A : Option Addr) (c n kids : Nat) : (tree A c n kids).length = kids + 1 := by simp [tree]
theorem tree_kid {A : Option Addr} {c n kids i : Nat} (h : i < kids) : (tree A c n kids)[i + 1]? = some (kidE i) := by simp [tree, h]

section
variable {A : Option Addr} {c n kids : Nat} (hk : kids ≤ 16)
include hk
theorem oneOf_kid {i : Nat} (hi : i < kids) : oneOf (tree A c n kids) (one i) = some (kidE i) := by
  unfold oneOf tree
  rw [List.find?_cons]
  have h1 : decide ((headE A c n kids).id = one i) = false := decide_eq_false (fun e => one_e0 i e.symm)
  rw [h1]
  simp only
  rw [List.find?_map]
  have : List.find? ((fun x : Ent => decide (x.id = one i)) ∘ kidE) (List.range kids) = some i := by
    rw [List.find?_range_eq_some]
    refine ⟨by simp [kidE], by simpa using hi, fun j hj => ?_⟩
    have : one j ≠ one i := fun e => by have := one_inj (by omega) (by omega) e; omega
    show (!decide (one j = one i)) = true
    rw [decide_eq_false this]
    rfl
  rw [this]
  rfl
omit hk in
theorem oneOf_head : oneOf (tree A c n kids) e0 = some (headE A c n kids) := by
  unfold oneOf tree
  rw [List.find?_cons]
  have h1 : decide ((headE A c n kids).id = e0) = true := decide_eq_true rfl
  rw [h1]
omit hk in
theorem oneOf_out {s : ByteArray} (h0 : s ≠ e0) (h : ∀ i, i < kids → one i ≠ s) : oneOf (tree A c n kids) s = none := by
  unfold oneOf
  rw [List.find?_eq_none]
  intro x hx
  simp only [tree, List.mem_cons, List.mem_map, List.mem_range] at hx
  rcases hx with rfl | ⟨i, hi, rfl⟩
  · rw [decide_eq_true_eq]
    exact fun e => h0 e.symm
  · rw [decide_eq_true_eq]
    exact h i hi
theorem fine_kid {ahead : List ByteArray} {i : Nat} (hi : i < kids) {e v : Int} : fine (tree A c n kids) ahead (one i, e, v) = (decide (0 = e) && decide ((i : Int) = v) && !inB ahead (one i)) := by
  unfold fine
  simp only
  rw [oneOf_kid hk hi]
  show (decide (0 = e) && decide ((i : Int) = v) && !inB ahead (one i) && true) = _
  rw [Bool.and_true]
omit hk in
theorem kid_e0 {i : Nat} (hi : i < 16) : kid e0 (i : Int) = (one i, true) := by
  unfold kid
  rw [if_pos ⟨rfl, by decide, by omega, by omega⟩]
  rfl
theorem fine_head {ahead : List ByteArray} : fine (tree A c n kids) ahead headC = (!inB ahead e0 && (List.range kids).all fun i => inB ahead (one i)) := by
  unfold fine headC
  simp only
  rw [oneOf_head]
  unfold goes
  have : (headE A c n kids).aw.all (fun k => (kid (headE A c n kids).id k).2 && inB ahead (kid (headE A c n kids).id k).1) = (List.range kids).all fun i => inB ahead (one i) := by
    rw [Bool.eq_iff_iff]
    simp only [headE, List.all_map, List.all_eq_true, Function.comp, List.mem_range]
    constructor
    · intro h i hi
      have := h i hi
      rw [kid_e0 (show i < 16 by omega)] at this
      simpa using this
    · intro h i hi
      rw [kid_e0 (show i < 16 by omega)]
      simpa using h i hi
  show (decide ((0 : Int) = 0) && decide ((100 : Int) = 100) && !inB ahead e0 && (headE A c n kids).aw.all (fun k => (kid (headE A c n kids).id k).2 && inB ahead (kid (headE A c n kids).id k).1)) = _
  rw [this]
  simp
end
end Go.Proofs.Yteinbdifncdaiaa
