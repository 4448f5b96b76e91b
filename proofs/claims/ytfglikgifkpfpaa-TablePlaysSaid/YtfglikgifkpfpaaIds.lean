/-
  Rows of names: slices.Index, slices.Contains, slices.Delete of the first (the rest: XIdsC).
-/
import Derived.Test.YtfglikgifkpfpaaIdsC
namespace Go.Proofs.Ytfglikgifkpfpaa
open Go.RowKit
set_option linter.unusedVariables false
set_option linter.unusedSimpArgs false

theorem sv_one (L : List ByteArray) : ∀ u ∈ sv L, u.oneCell' = true := svI_one L

/-- Where a name stands in a list. -/
def idxOf (L : List ByteArray) (s : ByteArray) : Option Nat := L.findIdx? (fun x => decide (x = s))
def idxI (L : List ByteArray) (s : ByteArray) : Int := match idxOf L s with | some k => (k : Int) | none => -1
theorem idxOf_none {L : List ByteArray} {s : ByteArray} : idxOf L s = none ↔ s ∉ L := by
  unfold idxOf
  rw [List.findIdx?_eq_none_iff]
  simp only [decide_eq_false_iff_not]
  exact ⟨fun h hm => h s hm rfl, fun h x hx e => h (e ▸ hx)⟩

/-- Is a name in a list? -/
def hasB (L : List ByteArray) (s : ByteArray) : Bool := (idxOf L s).isSome
theorem hasB_false {L : List ByteArray} {s : ByteArray} : hasB L s = false ↔ s ∉ L := by
  unfold hasB
  rw [← idxOf_none]
  cases idxOf L s <;> simp
theorem hasB_true {L : List ByteArray} {s : ByteArray} : hasB L s = true ↔ s ∈ L := by
  rw [← Bool.not_eq_false, hasB_false]
  exact Classical.not_not

set_option maxRecDepth 100000 in
theorem indexI_any (w : World) (A : Option Addr) (n c : Nat) (L : List ByteArray) (s : ByteArray) (h1 : Rds w 1 A n (sv L)) (hn : n ≤ 9223372036854775807) :
    Calls Try.prog 49 #[.slice A n c, .string s] w fun e w2 => e = .returned (.int .i64 (idxI L s)) ∧ w = w2 := by
  have H1 := Lib.hid h1
  clear h1
  go_enter Try.func49, Try.ntmps49
  go_wp2_with fail
  go_loop [8] (fun i => ∃ k : Nat, k ≤ n ∧ i = .int .i64 k ∧ Hid (∀ j, j < k → L[j]? ≠ some s)) (fun i => n - (intOf i).toNat)
  case atStart => exact ⟨0, Nat.zero_le _, rfl, (fun j h => by omega)⟩
  case round =>
    obtain ⟨k, hk, rfl, hno⟩ := hrel
    by_cases hlt : k < n
    · obtain ⟨ad, x, rfl, hx, hc⟩ := H1.out.getS hlt
      by_cases heq : x = s
      · have hres : idxOf L s = some k := by
          unfold idxOf
          rw [List.findIdx?_eq_some_iff_getElem]
          obtain ⟨hk2, hx2⟩ := List.getElem?_eq_some_iff.1 hx
          refine ⟨hk2, by simp [hx2, heq], fun j hj => ?_⟩
          have hj2 := hno.out j hj
          rw [List.getElem?_eq_getElem (by omega)] at hj2
          simpa using hj2
        have Hres := Lib.hid (show idxI L s = k by unfold idxI; rw [hres])
        subst heq
        clear hx hres hno
        go_wp2_with fail
        go_ret
        exact ⟨by rw [Hres.out]; rfl, rfl⟩
      · have e2 := str_ne (fun e : s = x => heq e.symm)
        have hno2 : Hid (∀ j, j < k + 1 → L[j]? ≠ some s) := by
          intro j hj
          rcases Nat.lt_or_ge j k with h | h
          · exact hno.out j h
          · obtain rfl : j = k := by omega
            rw [hx]
            intro e
            exact heq (Option.some.inj e)
        clear heq hx hno
        go_wp2_with fail
        go_round
        case rel => exact ⟨k + 1, by omega, by go_num, hno2⟩
        case measure => simp [intOf]; omega
    · have hres : idxOf L s = none := by
        rw [idxOf_none]
        intro hm
        obtain ⟨j, hj⟩ := List.getElem?_of_mem hm
        have hjl := (List.getElem?_eq_some_iff.1 hj).1
        have hl := H1.out.lenMap (f := Value.string)
        exact hno.out j (by omega) hj
      have Hres := Lib.hid (show idxI L s = -1 by unfold idxI; rw [hres])
      clear hres hno
      go_wp2_with fail
      go_ret
      exact ⟨by rw [Hres.out]; rfl, rfl⟩

theorem containsI_any (w : World) (A : Option Addr) (n c : Nat) (L : List ByteArray) (s : ByteArray) (h1 : Rds w 1 A n (sv L)) (hn : n ≤ 9223372036854775807) :
    Calls Try.prog 40 #[.slice A n c, .string s] w fun e w2 => e = .returned (.bool (hasB L s)) ∧ w = w2 := by
  cases hi : idxOf L s with
  | none =>
    have hd : hasB L s = false := by unfold hasB; rw [hi]; rfl
    have Hi := Lib.hid (show idxI L s = -1 by unfold idxI; rw [hi])
    have Hd := Lib.hid hd
    clear hi hd
    go_enter Try.func40, Try.ntmps40
    go_wp2_with fail
    refine (indexI_any _ A n c L s h1 hn).mono ?_
    rintro e w2 ⟨rfl, rfl⟩
    rw [Hi.out]
    go_wp2_with fail
    go_ret
    exact ⟨by rw [Hd.out]; rfl, rfl⟩
  | some k =>
    have hd : hasB L s = true := by unfold hasB; rw [hi]; rfl
    have Hi := Lib.hid (show idxI L s = k by unfold idxI; rw [hi])
    have Hd := Lib.hid hd
    clear hi hd
    go_enter Try.func40, Try.ntmps40
    go_wp2_with fail
    refine (indexI_any _ A n c L s h1 hn).mono ?_
    rintro e w2 ⟨rfl, rfl⟩
    rw [Hi.out]
    go_wp2_with fail
    go_ret
    exact ⟨by rw [Hd.out]; rfl, rfl⟩
end Go.Proofs.Ytfglikgifkpfpaa
