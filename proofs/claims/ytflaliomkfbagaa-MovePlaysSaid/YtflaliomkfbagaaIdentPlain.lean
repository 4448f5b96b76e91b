/-
  Names of tasks: plain.
-/
import Derived.Test.YtflaliomkfbagaaBase
namespace Go.Proofs.Ytflaliomkfbagaa
open Go.RowKit
set_option linter.unusedVariables false

def okD (b : UInt8) : Bool := decide (b.toNat < 16)
/-- A name that can be. -/
def vid (s : ByteArray) : Bool := decide (s.size ≤ 12) && s.data.toList.all okD
def digit (b : UInt8) : UInt8 := if b.toNat < 10 then UInt8.ofNat (48 + b.toNat) else UInt8.ofNat (87 + b.toNat)
def txt (s : ByteArray) : ByteArray := if vid s then ⟨(114 :: s.data.toList.map digit).toArray⟩ else ⟨#[]⟩
def kid (s : ByteArray) (k : Int) : ByteArray × Bool := if vid s ∧ s.size < 12 ∧ 0 ≤ k ∧ k < 16 then (s ++ ⟨#[UInt8.ofNat k.toNat]⟩, true) else (⟨#[]⟩, false)
def up (s : ByteArray) : ByteArray × Int × Bool := if vid s ∧ 0 < s.size then (s.extract 0 (s.size - 1), ((s.data.toList.getD (s.size - 1) 0).toNat : Int), true) else (⟨#[]⟩, 0, false)
/-- How many bytes two texts begin with alike. -/
def lcpn : List UInt8 → List UInt8 → Nat
  | x :: a, y :: b => if x = y then lcpn a b + 1 else 0
  | _, _ => 0
def common : List ByteArray → ByteArray
  | [] => ⟨#[]⟩
  | x :: l => (x :: l).foldl (fun (o s : ByteArray) => o.extract 0 (lcpn o.data.toList s.data.toList)) x

theorem size_list (s : ByteArray) : s.data.toList.length = s.size := by rw [Array.length_toList]; rfl
theorem get_list (s : ByteArray) {k : Nat} (h : k < s.size) : s.data.toList[k]? = some s[k] := by
  rw [List.getElem?_eq_getElem (by rw [size_list]; exact h)]
  rfl
theorem take_step (s : ByteArray) {k : Nat} (h : k < s.size) : s.data.toList.take (k + 1) = s.data.toList.take k ++ [s[k]] := by
  rw [List.take_add_one, get_list s h]; rfl
theorem drop_step (s : ByteArray) {k : Nat} (h : k < s.size) : s.data.toList.drop k = s[k] :: s.data.toList.drop (k + 1) := by
  have h1 : k < s.data.toList.length := by rw [size_list]; exact h
  rw [List.drop_eq_getElem_cons h1]
  rfl
theorem take_whole (s : ByteArray) : s.data.toList.take s.size = s.data.toList := List.take_of_length_le (by rw [size_list]; exact Nat.le_refl _)
theorem vid_small {s : ByteArray} (h : vid s = true) : s.size ≤ 12 := by simp [vid] at h; exact h.1
theorem vid_at {s : ByteArray} (h : vid s = true) {k : Nat} (hk : k < s.size) : s[k].toNat < 16 := by
  simp only [vid, Bool.and_eq_true, List.all_eq_true] at h
  have := h.2 s[k] (List.mem_of_getElem? (get_list s hk))
  simpa [okD] using this
theorem lcpn_nil_left (b : List UInt8) : lcpn [] b = 0 := by cases b <;> rfl
theorem lcpn_nil_right (a : List UInt8) : lcpn a [] = 0 := by cases a <;> rfl
theorem lcpn_le (a b : List UInt8) : lcpn a b ≤ a.length := by
  induction a generalizing b with
  | nil => rw [lcpn_nil_left]; exact Nat.le_refl _
  | cons x a ih =>
    cases b with
    | nil => rw [lcpn_nil_right]; omega
    | cons y b =>
      unfold lcpn
      have := ih b
      split <;> simp <;> omega
theorem lcpn_self (a : List UInt8) : lcpn a a = a.length := by
  induction a with
  | nil => rfl
  | cons x a ih => unfold lcpn; simp [ih]
theorem ext_all (s : ByteArray) : s.extract 0 s.size = s := by
  apply ByteArray.ext
  rw [ByteArray.data_extract, show s.size = s.data.size from rfl]
  simp
theorem common_one (s : ByteArray) : common [s] = s := by
  unfold common
  simp only [List.foldl_cons, List.foldl_nil]
  rw [lcpn_self, size_list, ext_all]
theorem ext_empty (n : Nat) : (⟨#[]⟩ : ByteArray).extract 0 n = ⟨#[]⟩ := by
  apply ByteArray.ext
  simp [ByteArray.data_extract]
theorem fold_empty (l : List ByteArray) : l.foldl (fun (o s : ByteArray) => o.extract 0 (lcpn o.data.toList s.data.toList)) ⟨#[]⟩ = (⟨#[]⟩ : ByteArray) := by
  induction l with
  | nil => rfl
  | cons x l ih => rw [List.foldl_cons, ext_empty, ih]
theorem common_empty {l : List ByteArray} (h : l.head? = some ⟨#[]⟩) : common l = ⟨#[]⟩ := by
  cases l with
  | nil => rfl
  | cons x l =>
    simp at h
    subst h
    exact fold_empty _
end Go.Proofs.Ytflaliomkfbagaa
