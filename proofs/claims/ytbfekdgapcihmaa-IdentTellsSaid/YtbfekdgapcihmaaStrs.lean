/-
  strings.IndexByte; strings.CutPrefix of "r".
-/
import Derived.Test.YtbfekdgapcihmaaIdent
import Derived.Laws.Externs
import Derived.Lib.Bytealg
namespace Go.Proofs.Ytbfekdgapcihmaa
open Go.RowKit
set_option linter.unusedVariables false

theorem indexLite_any (s : ByteArray) (c : Int) (w : World) :
    Calls Try.prog 30 #[.string s, .int .u8 c] w fun e w2 => e = .returned (.int .i64 (Lib.indexByte s.data.toList c.toNat.toUInt8)) ∧ w = w2 := by
  go_enter Try.func30, Try.ntmps30
  go_wp2_with fail
  rw [run_callFunc_extern Try.func34 (by kernel_rfl) (by kernel_rfl) (by kernel_rfl) (e := Extern.BytealgIndexByte.indexByte) (by kernel_rfl), Lib.run_indexByteString]
  simp only [Result.andThen]
  rw [Oper.upon_value]
  go_wp2_with fail
  go_ret
  exact ⟨rfl, rfl⟩
theorem index_any (s : ByteArray) (c : Int) (w : World) :
    Calls Try.prog 24 #[.string s, .int .u8 c] w fun e w2 => e = .returned (.int .i64 (Lib.indexByte s.data.toList c.toNat.toUInt8)) ∧ w = w2 := by
  go_enter Try.func24, Try.ntmps24
  go_wp2_with fail
  refine (indexLite_any s c _).mono ?_
  rintro e w2 ⟨rfl, rfl⟩
  go_wp2_with fail
  go_ret
  exact ⟨rfl, rfl⟩

/-- What 'CutPrefix(s, "r")' answers. -/
def cutR (s : ByteArray) : ByteArray × Bool := if s.data.toList.head? = some 114 then (s.extract 1 s.size, true) else (s, false)

theorem head_ext (s : ByteArray) (h : 1 ≤ s.size) : ((s.extract 0 1).toList == [114]) = decide (s.data.toList.head? = some 114) := by
  rw [ByteArray.toList_eq]
  obtain ⟨⟨l⟩⟩ := s
  cases l with
  | nil => simp [ByteArray.size] at h
  | cons x l =>
    rw [Bool.eq_iff_iff, beq_iff_eq, decide_eq_true_eq, ByteArray.extract_mk]
    simp

theorem hasR_any (s : ByteArray) (w : World) (hs : s.size ≤ 4611686018427387904) :
    Calls Try.prog 33 #[.string s, .string ⟨#[114]⟩] w fun e w2 => e = .returned (.bool (decide (s.data.toList.head? = some 114))) ∧ w = w2 := by
  have h1 : (⟨#[114]⟩ : ByteArray).size = 1 := rfl
  by_cases h0 : 1 ≤ s.size
  · have hq := head_ext s h0
    have Hq := Lib.hid hq
    clear hq
    go_enter Try.func33, Try.ntmps33
    go_wp2_with fail
    go_ret
    refine ⟨?_, rfl⟩
    rw [← Hq.out]
    rfl
  · have hq : decide (s.data.toList.head? = some 114) = false := by
      rw [decide_eq_false_iff_not]
      have : s.data.toList = [] := List.eq_nil_of_length_eq_zero (by rw [size_list]; omega)
      rw [this]; simp
    have Hq := Lib.hid hq
    have h2 : s.size = 0 := by omega
    clear hq
    go_enter Try.func33, Try.ntmps33
    go_wp2_with fail
    go_ret
    refine ⟨?_, rfl⟩
    rw [Hq.out]
    rfl
theorem head_size {s : ByteArray} (h : s.data.toList.head? = some 114) : 1 ≤ s.size := by
  rcases Nat.eq_zero_or_pos s.size with h0 | h0
  · have : s.data.toList = [] := List.eq_nil_of_length_eq_zero (by rw [size_list]; omega)
    rw [this] at h; cases h
  · exact h0

theorem cutLite_any (s : ByteArray) (w : World) (hs : s.size ≤ 4611686018427387904) :
    Calls Try.prog 29 #[.string s, .string ⟨#[114]⟩] w fun e w2 => e = .returned (.tuple #[.string (cutR s).1, .bool (cutR s).2]) ∧ w = w2 := by
  have h1 : (⟨#[114]⟩ : ByteArray).size = 1 := rfl
  by_cases h : s.data.toList.head? = some 114
  · have hcut : cutR s = (s.extract 1 s.size, true) := if_pos h
    have Hcut := Lib.hid hcut
    have h0 := head_size h
    go_enter Try.func29, Try.ntmps29
    go_wp2_with fail
    refine (hasR_any s _ hs).mono ?_
    rintro e w2 ⟨rfl, rfl⟩
    rw [decide_eq_true h]
    clear h hcut
    go_wp2_with fail
    go_ret2
    exact ⟨by rw [Hcut.out]; rfl, rfl⟩
  · have hcut : cutR s = (s, false) := if_neg h
    have Hcut := Lib.hid hcut
    go_enter Try.func29, Try.ntmps29
    go_wp2_with fail
    refine (hasR_any s _ hs).mono ?_
    rintro e w2 ⟨rfl, rfl⟩
    rw [decide_eq_false h]
    clear h hcut
    go_wp2_with fail
    go_ret2
    exact ⟨by rw [Hcut.out]; rfl, rfl⟩
theorem cut_any (s : ByteArray) (w : World) (hs : s.size ≤ 4611686018427387904) :
    Calls Try.prog 23 #[.string s, .string ⟨#[114]⟩] w fun e w2 => e = .returned (.tuple #[.string (cutR s).1, .bool (cutR s).2]) ∧ w = w2 := by
  go_enter Try.func23, Try.ntmps23
  go_wp2_with fail
  refine (cutLite_any s _ hs).mono ?_
  rintro e w2 ⟨rfl, rfl⟩
  go_wp2_with fail
  go_ret2
  exact ⟨rfl, rfl⟩

/-- The sixteenth a byte stands for. -/
def undig (b : UInt8) : Option UInt8 := if 48 ≤ b.toNat ∧ b.toNat ≤ 57 then some (UInt8.ofNat (b.toNat - 48)) else if 97 ≤ b.toNat ∧ b.toNat ≤ 102 then some (UInt8.ofNat (b.toNat - 87)) else none
def hexs : List UInt8 := [48, 49, 50, 51, 52, 53, 54, 55, 56, 57, 97, 98, 99, 100, 101, 102]
def undigI (b : UInt8) : Int := match undig b with | some d => (d.toNat : Int) | none => -1
theorem index_table : ((List.range 256).all fun n => Lib.indexByte hexs (UInt8.ofNat n) == undigI (UInt8.ofNat n)) = true := by kernel_rfl
theorem index_hex (b : UInt8) : Lib.indexByte hexs b = undigI b := by
  have h := (List.all_eq_true.1 index_table) b.toNat (List.mem_range.2 b.toNat_lt)
  rw [UInt8.ofNat_toNat, beq_iff_eq] at h
  exact h
theorem undig_small {b d : UInt8} (h : undig b = some d) : d.toNat < 16 := by
  unfold undig at h
  split at h
  · cases h; rw [UInt8.toNat_ofNat']; omega
  · split at h
    · cases h; rw [UInt8.toNat_ofNat']; omega
    · cases h
def undigs : List UInt8 → Option (List UInt8)
  | [] => some []
  | b :: l => match undig b, undigs l with
    | some d, some r => some (d :: r)
    | _, _ => none
/-- What 'Read' answers. -/
def rid (s : ByteArray) : ByteArray × Bool :=
  match s.data.toList with
  | [] => (⟨#[]⟩, false)
  | x :: l => if x = 114 ∧ l.length ≤ 12 then (match undigs l with | some r => (⟨r.toArray⟩, true) | none => (⟨#[]⟩, false)) else (⟨#[]⟩, false)
end Go.Proofs.Ytbfekdgapcihmaa
