/-
  slices.Index, slices.Contains over numbers and members; view.Has, view.Fenced; whom view.Without leaves out.
-/
import Derived.Test.YtojlglkefiddnaaMembers
namespace Go.Proofs.Ytojlglkefiddnaa
open Go.RowKit
set_option linter.unusedVariables false
set_option linter.unusedSimpArgs false

set_option maxRecDepth 100000 in
theorem indexInt_any (w : World) (A : Option Addr) (n c : Nat) (L : List Int) (x : Int) (h1 : Rds w 1 A n (iv L)) (hn : n ≤ 9223372036854775807) :
    Calls Try.prog 43 #[.slice A n c, .int .i64 x] w fun e w2 => e = .returned (.int .i64 (fIdx L fun y => x == y)) ∧ w = w2 := by
  have H1 := Lib.hid h1
  clear h1
  go_enter Try.func43, Try.ntmps43
  go_wp2_with fail
  go_loop [8] (fun i => ∃ k : Nat, k ≤ n ∧ i = .int .i64 k ∧ Hid (∀ j y, j < k → L[j]? = some y → (x == y) = false)) (fun i => n - (intOf i).toNat)
  case atStart => exact ⟨0, Nat.zero_le _, rfl, (fun j y h => by omega)⟩
  case round =>
    obtain ⟨k, hk, rfl, hno⟩ := hrel
    by_cases hlt : k < n
    · obtain ⟨ad, y, rfl, hx, hc⟩ := H1.out.getI hlt
      cases hp : x == y with
      | true =>
        have hres := fIdx_some (p := fun y => x == y) hno.out hx hp
        have Hres := Lib.hid hres
        clear hres hx hno
        go_wp2_with fail
        go_ret
        exact ⟨by rw [Hres.out]; rfl, rfl⟩
      | false =>
        have hno2 : Hid (∀ j y, j < k + 1 → L[j]? = some y → (x == y) = false) := by
          intro j z hj hz
          rcases Nat.lt_or_ge j k with h | h
          · exact hno.out j z h hz
          · obtain rfl : j = k := by omega
            rw [hx] at hz
            cases hz
            exact hp
        clear hx hno
        go_wp2_with fail
        go_round
        case rel => exact ⟨k + 1, by omega, by go_num, hno2⟩
        case measure => simp [intOf]; omega
    · have hres : fIdx L (fun y => x == y) = -1 := by
        refine fIdx_none fun y hy => ?_
        obtain ⟨j, hj⟩ := List.getElem?_of_mem hy
        have hjl := (List.getElem?_eq_some_iff.1 hj).1
        have hl := H1.out.lenMap (f := fun n : Int => .int .i64 n)
        exact hno.out j y (by omega) hj
      have Hres := Lib.hid hres
      clear hres hno
      go_wp2_with fail
      go_ret
      exact ⟨by rw [Hres.out]; rfl, rfl⟩

/-- Is a number in a list? -/
def inI (L : List Int) (x : Int) : Bool := L.any fun y => x == y
theorem containsInt_any (w : World) (A : Option Addr) (n c : Nat) (L : List Int) (x : Int) (h1 : Rds w 1 A n (iv L)) (hn : n ≤ 9223372036854775807) :
    Calls Try.prog 31 #[.slice A n c, .int .i64 x] w fun e w2 => e = .returned (.bool (inI L x)) ∧ w = w2 := by
  have hg := Lib.hid (fIdx_ge L fun y => x == y)
  go_enter Try.func31, Try.ntmps31
  go_wp2_with fail
  refine (indexInt_any w A n c L x h1 hn).mono ?_
  rintro e w2 ⟨rfl, rfl⟩
  generalize fIdx L (fun y => x == y) = q at hg ⊢
  go_wp2_with fail
  go_ret
  exact ⟨by unfold inI; rw [← hg.out]; rfl, rfl⟩

/-- Are two members one? -/
def sameM (a b : Mb) : Bool := a.1 == b.1 && a.2 == b.2
theorem sameM_eq (a b : Mb) : sameM a b = decide (a = b) := by
  obtain ⟨a1, a2⟩ := a
  obtain ⟨b1, b2⟩ := b
  unfold sameM
  by_cases h1 : a1 = b1 <;> by_cases h2 : a2 = b2 <;> simp [h1, h2]

theorem eq_mb (w : World) (a b c d : Int) : (Op.equalIn 10000 43 (.agg #[.int .i64 a, .int .i64 b]) (.agg #[.int .i64 c, .int .i64 d])).run Try.prog w = .ok (a == c && b == d) w := by
  have u3 := Try.underlying3
  have hS : Try.prog.underlying 43 = some (.struct (Try.prog.fieldsOf 43)) := by kernel_rfl
  have hp : Try.prog.stoodInHeld 43 = false := by kernel_rfl
  rw [show (10000 : Nat) = 9999 + 1 from rfl, run_equalIn_agg w 9999 43 _ _ hS hp]
  simp only [Program.fieldsOf, Try.underlying43]
  go_simp
  by_cases h1 : a = c <;> by_cases h2 : b = d <;> simp [h1, h2]

set_option maxRecDepth 100000 in
theorem indexM_any (w : World) (A : Option Addr) (n c : Nat) (L : List Mb) (a b : Int) (h1 : Rds w 2 A n (mv L)) (hn : n ≤ 9223372036854775807) :
    Calls Try.prog 44 #[.slice A n c, .agg #[.int .i64 a, .int .i64 b]] w fun e w2 => e = .returned (.int .i64 (fIdx L fun m => sameM (a, b) m)) ∧ Chg Non w w2 := by
  obtain ⟨w1, hw1⟩ : ∃ w1, w.alloc (.cells #[.int .i64 a, .int .i64 b] 43) = w1 := ⟨_, rfl⟩
  have hC : Chg Non w w1 := hw1 ▸ (Chg.refl _ _).alloc _
  have hb : Blk w1 w.heap.size 43 #[.int .i64 a, .int .i64 b] := hw1 ▸ Blk.new _ _ _
  have H1 := Lib.hid (h1.non hC)
  have q := eq_mb
  clear h1
  go_enter Try.func44, Try.ntmps44
  go_wp2_with fail
  clear hw1
  go_loopw [8] (fun i wr => ∃ k : Nat, k ≤ n ∧ i = .int .i64 k ∧ Hid (∀ j y, j < k → L[j]? = some y → sameM (a, b) y = false) ∧ Chg Non w1 wr) (fun i _ => n - (intOf i).toNat)
  case atStart => exact ⟨0, Nat.zero_le _, rfl, (fun j y h => by omega), Chg.refl _ _⟩
  case round =>
    obtain ⟨k, hk, rfl, hno, hC2⟩ := hrel
    by_cases hlt : k < n
    · obtain ⟨ad, m, rfl, hx, hc0, hc1⟩ := H1.out.getM hlt
      have a0 := hC2.cell hc0 id
      have a1 := hC2.cell hc1 id
      have hbr := hb.non hC2
      have c0 := hbr.cell 0
      have c1 := hbr.cell 1
      simp only [List.getElem?_toArray, List.getElem?_cons_zero, List.getElem?_cons_succ] at c0 c1
      have b1 : (0 : Int) ≤ (k : Int) := by omega
      have b2 : (k : Int) < n := by omega
      cases hp : sameM (a, b) m with
      | true =>
        have hres := fIdx_some (p := fun m => sameM (a, b) m) hno.out hx hp
        have hp2 : (a == m.1 && b == m.2) = true := hp
        have Hres := Lib.hid hres
        clear hres hp hx hno hc0 hc1
        go_wp2_with fail
        go_quiet (fail)
        go_wp2_with fail
        go_ret
        exact ⟨by rw [Hres.out]; rfl, (hC.non hC2).drewN _⟩
      | false =>
        have hp2 : (a == m.1 && b == m.2) = false := hp
        have hno2 : Hid (∀ j y, j < k + 1 → L[j]? = some y → sameM (a, b) y = false) := by
          intro j z hj hz
          rcases Nat.lt_or_ge j k with h | h
          · exact hno.out j z h hz
          · obtain rfl : j = k := by omega
            rw [hx] at hz
            cases hz
            exact hp
        clear hp hx hno hc0 hc1
        go_wp2_with fail
        go_quiet (fail)
        go_wp2_with fail
        go_roundw
        case rel => exact ⟨k + 1, by omega, by go_num, hno2, hC2.drewN _⟩
        case measure => simp [intOf]; omega
    · have hres : fIdx L (fun m => sameM (a, b) m) = -1 := by
        refine fIdx_none fun y hy => ?_
        obtain ⟨j, hj⟩ := List.getElem?_of_mem hy
        have hjl := (List.getElem?_eq_some_iff.1 hj).1
        have hl := mv_len H1.out
        exact hno.out j y (by omega) hj
      have Hres := Lib.hid hres
      clear hres hno
      go_wp2_with fail
      go_ret
      exact ⟨by rw [Hres.out]; rfl, hC.non hC2⟩

def inM (L : List Mb) (a b : Int) : Bool := L.any fun m => sameM (a, b) m
theorem containsM_any (w : World) (A : Option Addr) (n c : Nat) (L : List Mb) (a b : Int) (h1 : Rds w 2 A n (mv L)) (hn : n ≤ 9223372036854775807) :
    Calls Try.prog 34 #[.slice A n c, .agg #[.int .i64 a, .int .i64 b]] w fun e w2 => e = .returned (.bool (inM L a b)) ∧ Chg Non w w2 := by
  have hg := Lib.hid (fIdx_ge L fun m => sameM (a, b) m)
  have hC : Chg Non w (w.alloc (.cells #[.int .i64 a, .int .i64 b] 43)) := (Chg.refl _ _).alloc _
  go_enter Try.func34, Try.ntmps34
  go_wp2_with fail
  refine (indexM_any _ A n c L a b (h1.non hC) hn).mono ?_
  rintro e w2 ⟨rfl, hc2⟩
  generalize fIdx L (fun m => sameM (a, b) m) = q at hg ⊢
  go_wp2_with fail
  go_ret
  exact ⟨by unfold inM; rw [← hg.out]; rfl, hC.non hc2⟩
theorem has_any (w : World) (ep : Int) (A : Option Addr) (n c : Nat) (L : List Mb) (a b : Int) (h1 : Rds w 2 A n (mv L)) (hn : n ≤ 9223372036854775807) :
    Calls Try.prog 14 #[.agg #[.int .i64 ep, .slice A n c], .int .i64 a, .int .i64 b] w fun e w2 => e = .returned (.bool (inM L a b)) ∧ Chg Non w w2 := by
  have hC : Chg Non w (w.alloc (.cells #[.int .i64 ep, .slice A n c] 26)) := (Chg.refl _ _).alloc _
  go_enter Try.func14, Try.ntmps14
  go_wp2_with fail
  refine (containsM_any _ A n c L a b (h1.non hC) hn).mono ?_
  rintro e w2 ⟨rfl, hc2⟩
  go_wp2_with fail
  go_ret
  exact ⟨rfl, hC.non hc2⟩
def fencedB (ep : Int) (L : List Mb) (e a b : Int) : Bool := e != ep || !inM L a b
theorem fenced_any (w : World) (ep : Int) (A : Option Addr) (n c : Nat) (L : List Mb) (e a b : Int) (h1 : Rds w 2 A n (mv L)) (hn : n ≤ 9223372036854775807) :
    Calls Try.prog 12 #[.agg #[.int .i64 ep, .slice A n c], .int .i64 e, .int .i64 a, .int .i64 b] w fun e2 w2 => e2 = .returned (.bool (fencedB ep L e a b)) ∧ Chg Non w w2 := by
  have hC : Chg Non w (w.alloc (.cells #[.int .i64 ep, .slice A n c] 26)) := (Chg.refl _ _).alloc _
  cases he : e != ep with
  | true =>
    have hf : fencedB ep L e a b = true := by unfold fencedB; rw [he]; rfl
    have Hf := Lib.hid hf
    clear hf
    go_enter Try.func12, Try.ntmps12
    go_wp2_with fail
    go_ret
    exact ⟨by rw [Hf.out]; rfl, hC⟩
  | false =>
    have hf : fencedB ep L e a b = !inM L a b := by unfold fencedB; rw [he]; rfl
    have Hf := Lib.hid hf
    clear hf
    go_enter Try.func12, Try.ntmps12
    go_wp2_with fail
    refine (has_any _ ep A n c L a b (h1.non hC) hn).mono ?_
    rintro e w2 ⟨rfl, hc2⟩
    go_wp2_with fail
    go_ret
    exact ⟨by rw [Hf.out]; rfl, hC.non hc2⟩

/-- The member is among these nodes. -/
theorem without2_any (w : World) (a b : Int) (pn : Nat) (A : Option Addr) (n c : Nat) (L : List Int) (hb : Blk w pn 22 #[.slice A n c]) (h1 : Rds w 1 A n (iv L)) (hn : n ≤ 9223372036854775807) :
    Calls Try.prog 30 #[.agg #[.int .i64 a, .int .i64 b], .pointer (some ⟨pn, 0, none⟩)] w fun e w2 => e = .returned (.bool (inI L a)) ∧ Chg Non w w2 := by
  have c0 := hb.cell 0
  simp only [List.getElem?_toArray, List.getElem?_cons_zero] at c0
  have hlt := hb.lt
  have hC : Chg Non w (w.alloc (.cells #[.int .i64 a, .int .i64 b] 43)) := (Chg.refl _ _).alloc _
  clear hb
  go_enter Try.func30, Try.ntmps30
  go_wp2_with fail
  refine (containsInt_any _ A n c L a (h1.non hC) hn).mono ?_
  rintro e w2 ⟨rfl, rfl⟩
  go_wp2_with fail
  go_ret
  exact ⟨rfl, hC⟩
end Go.Proofs.Ytojlglkefiddnaa
