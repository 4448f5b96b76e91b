/-
  Rows of names; gleanerref1.SameIDs of two rows that are one.
-/
import Derived.Test.YtflaliomkfbagaaRows
import Derived.Test.YtflaliomkfbagaaWin
import Derived.Test.YtflaliomkfbagaaGet
import Derived.Test.YtflaliomkfbagaaLaw
namespace Go.Proofs.Ytflaliomkfbagaa
open Go.RowKit
set_option linter.unusedVariables false
set_option linter.unusedSimpArgs false

abbrev rkI : RowKind Try.prog where
  t := 30
  e := 33
  z := .string ⟨#[]⟩
  size := 1
  bytes := 16
  ht := Try.underlying30
  info := by kernel_rfl
  hz := rfl
  hs := by decide
  hb := by decide
def sv (L : List ByteArray) : List Value := L.map Value.string
theorem svI_one (L : List ByteArray) : ∀ u ∈ sv L, u.oneCell' = true := by
  intro u hu
  simp only [sv, List.mem_map] at hu
  obtain ⟨b, _, rfl⟩ := hu
  rfl
theorem Rds.getS {w : World} {A : Option Addr} {n : Nat} {l : List ByteArray} (h : Rds w 1 A n (sv l)) {k : Nat} (hk : k < n) :
    ∃ ad x, A = some ad ∧ l[k]? = some x ∧ w.cell? (ad.add k) = some (.string x) := h.getMap (f := Value.string) hk
theorem str_ne {a b : ByteArray} (h : a ≠ b) : (a.toList == b.toList) = false := by
  rw [beq_eq_false_iff_ne, ByteArray.toList_eq, ByteArray.toList_eq]
  intro e
  apply h
  obtain ⟨⟨a⟩⟩ := a
  obtain ⟨⟨b⟩⟩ := b
  simp at e
  rw [e]
set_option maxRecDepth 100000 in
theorem sameIDs_same (w : World) (A : Option Addr) (n c : Nat) (B : Option Addr) (c2 : Nat) (L : List ByteArray) (h1 : Rds w 1 A n (sv L)) (h2 : Rds w 1 B n (sv L)) (hn : n ≤ 9223372036854775807) :
    Calls Try.prog 22 #[.slice A n c, .slice B n c2] w fun e w2 => e = .returned (.bool true) ∧ Chg Non w w2 := by
  have H1 := Lib.hid h1
  have H2 := Lib.hid h2
  clear h1 h2
  go_enter Try.func22, Try.ntmps22
  go_wp2_with fail
  go_loopw [5] (fun i wr => ∃ k : Nat, k ≤ n ∧ i = .int .i64 k ∧ Chg Non w wr) (fun i _ => n - (intOf i).toNat)
  case atStart => exact ⟨0, Nat.zero_le _, rfl, Chg.refl _ _⟩
  case round =>
    obtain ⟨k, hk, rfl, hC⟩ := hrel
    by_cases hlt : k < n
    · obtain ⟨ad, x, rfl, hx, hc⟩ := H1.out.getS hlt
      obtain ⟨ad2, x2, rfl, hx2, hc2⟩ := H2.out.getS hlt
      obtain rfl : x2 = x := by rw [hx] at hx2; exact (Option.some.inj hx2).symm
      have a0 := hC.cell hc id
      have b0 := hC.cell hc2 id
      have b1 : (0 : Int) ≤ (k : Int) := by omega
      have b2 : (k : Int) < n := by omega
      clear hc hc2 hx hx2
      go_wp2_with fail
      go_quiet (fail)
      go_wp2_with fail
      go_roundw
      case rel => exact ⟨k + 1, by omega, by go_num, hC.drewN _⟩
      case measure => simp [intOf]; omega
    · go_wp2_with fail
      go_ret
      exact ⟨rfl, hC⟩
theorem sv_one (L : List ByteArray) : ∀ u ∈ sv L, u.oneCell' = true := svI_one L
end Go.Proofs.Ytflaliomkfbagaa
