/-
  note.members.
-/
import Derived.Test.YtflaliomkfbagaaNoteBase
namespace Go.Proofs.Ytflaliomkfbagaa
open Go.RowKit
set_option linter.unusedVariables false
set_option linter.unusedSimpArgs false

theorem memsB_drop {L : List Mb} {k : Nat} {m : Mb} (h : L[k]? = some m) (last : Int) : memsB last (L.drop k) = (decide (last < m.1) && upto 15 m.1 && upto great m.2 && memsB m.1 (L.drop (k + 1))) := by
  obtain ⟨hk, hm⟩ := List.getElem?_eq_some_iff.1 h
  rw [List.drop_eq_getElem_cons hk, hm]
  rfl
theorem all_uno (p : Int → Bool) (x : Int) : [x].all p = p x := by simp

set_option maxRecDepth 100000 in
set_option maxHeartbeats 1000000 in
theorem members_any (w : World) (A : Option Addr) (n c : Nat) (L : List Mb) (h1 : Rds w 2 A n (mv L)) (hn : n ≤ 9223372036854775807) :
    Calls Try.prog 74 #[.slice A n c] w fun e w2 => e = .returned (.bool (viewB L)) ∧ Chg Non w w2 := by
  have H1 := Lib.hid h1
  have Hnl := Lib.hid h1.lenM
  clear h1
  go_enter Try.func74, Try.ntmps74
  go_wp2_with fail
  go_loopw [3, 8] (fun l i wr => ∃ (k : Nat) (last : Int), k ≤ n ∧ i = .int .i64 k ∧ l = .int .i64 last ∧ Hid (memsB (-1) L = memsB last (L.drop k)) ∧ Chg Non w wr) (fun _ i _ => n - (intOf i).toNat)
  case atStart => exact ⟨0, -1, Nat.zero_le _, rfl, rfl, rfl, Chg.refl _ _⟩
  case round =>
    obtain ⟨k, last, hk, rfl, rfl, hok, hC2⟩ := hrel
    by_cases hlt : k < n
    · obtain ⟨ad, m, rfl, hx, hc0, hc1⟩ := H1.out.getM hlt
      have a0 := hC2.cell hc0 id
      have a1 := hC2.cell hc1 id
      have hst := memsB_drop hx last
      obtain ⟨w1, hw1⟩ : ∃ w1, wr.alloc (.cells #[.int .i64 m.1, .int .i64 m.2] 116) = w1 := ⟨_, rfl⟩
      have hcA : Chg Non wr w1 := hw1 ▸ (Chg.refl _ _).alloc _
      have hCa := hC2.non hcA
      have hbA : Blk w1 wr.heap.size 116 #[.int .i64 m.1, .int .i64 m.2] := hw1 ▸ Blk.new _ _ _
      have c0 := hbA.cell 0
      have c1 := hbA.cell 1
      simp only [List.getElem?_toArray, List.getElem?_cons_zero, List.getElem?_cons_succ] at c0 c1
      cases hb1 : decide (last < m.1) with
      | false =>
        have hno : viewB L = false := by unfold viewB; rw [hok.out, hst, hb1]; rfl
        have hle : m.1 ≤ last := by simpa using hb1
        have Hno := Lib.hid hno
        clear hno hst hb1 hx hc0 hc1 hok hcA hbA
        go_wp2_with fail
        go_ret
        exact ⟨by rw [Hno.out]; rfl, hCa⟩
      | true =>
        have hgt : last < m.1 := by simpa using hb1
        have hc2 : Chg Non w1 (w1.alloc (.cells #[.int .i64 m.1] 3)) := (Chg.refl _ _).alloc _
        have Hst := Lib.hid hst
        have Hb1 := Lib.hid hb1
        have Hx := Lib.hid hx
        clear hst hb1 hx hc0 hc1 hcA hbA
        go_wp2_with fail
        clear hw1 a0 a1
        refine (within_any _ 15 _ 1 1 [m.1] (rds1 _ _) (by omega)).mono ?_
        rintro e w9 ⟨rfl, rfl⟩
        rw [all_uno]
        obtain ⟨w2, hw2⟩ : ∃ w2, w1.alloc (.cells #[.int .i64 m.1] 3) = w2 := ⟨_, rfl⟩
        rw [hw2] at hc2 ⊢
        have hC3 := hCa.non hc2
        have d0 := hc2.cell c0 id
        have d1 := hc2.cell c1 id
        cases hb2 : upto 15 m.1 with
        | false =>
          have hno : viewB L = false := by unfold viewB; rw [hok.out, Hst.out, Hb1.out, hb2]; rfl
          have Hno := Lib.hid hno
          clear hno hb2 hok hw2 c0 c1 hc2
          go_wp2_with fail
          go_ret
          exact ⟨by rw [Hno.out]; rfl, hC3⟩
        | true =>
          have hc4 : Chg Non w2 (w2.alloc (.cells #[.int .i64 m.2] 3)) := (Chg.refl _ _).alloc _
          have Hb2 := Lib.hid hb2
          clear hb2 hw2 c0 c1 hc2
          go_wp2_with fail
          refine (within_any _ 2147483647 _ 1 1 [m.2] (rds1 _ _) (by omega)).mono ?_
          rintro e w9 ⟨rfl, rfl⟩
          rw [all_uno]
          obtain ⟨w4, hw4⟩ : ∃ w4, w2.alloc (.cells #[.int .i64 m.2] 3) = w4 := ⟨_, rfl⟩
          rw [hw4] at hc4 ⊢
          have hC4 := hC3.non hc4
          have e0 := hc4.cell d0 id
          cases hb3 : upto 2147483647 m.2 with
          | false =>
            have hno : viewB L = false := by unfold viewB; rw [hok.out, Hst.out, Hb1.out, Hb2.out, hb3]; rfl
            have Hno := Lib.hid hno
            clear hno hb3 hok hw4 d0 d1 hc4
            go_wp2_with fail
            go_ret
            exact ⟨by rw [Hno.out]; rfl, hC4⟩
          | true =>
            have hnext : memsB (-1) L = memsB m.1 (L.drop (k + 1)) := by rw [hok.out, Hst.out, Hb1.out, Hb2.out, hb3]; rfl
            have Hnext := Lib.hid hnext
            clear hnext hb3 hok hw4 d0 d1 hc4
            go_wp2_with fail
            go_roundw
            case rel => exact ⟨k + 1, m.1, by omega, by go_num, rfl, Hnext, hC4⟩
            case measure => simp [intOf]; omega
    · obtain rfl : k = n := by omega
      have hz : L.drop k = [] := List.drop_of_length_le (by have := Hnl.out; omega)
      have hall : memsB (-1) L = true := by rw [hok.out, hz]; rfl
      have hv : viewB L = decide ((k : Int) ≤ 16) := by unfold viewB; rw [hall, Bool.true_and]; exact decide_eq_decide.2 (by have := Hnl.out; omega)
      have Hv := Lib.hid hv
      clear hv hall hz hok
      go_wp2_with fail
      go_ret
      exact ⟨by rw [Hv.out]; rfl, hC2⟩
end Go.Proofs.Ytflaliomkfbagaa
