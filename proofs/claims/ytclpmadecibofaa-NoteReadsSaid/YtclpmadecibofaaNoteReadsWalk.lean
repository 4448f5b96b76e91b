/-
  gleanerlaw11.NoteReads: the walk.
-/
import Derived.Test.YtclpmadecibofaaNoteAlive
import Derived.Test.YtclpmadecibofaaNoteRaw2
import Derived.Test.YtclpmadecibofaaNoteRaw4
import Derived.Test.YtclpmadecibofaaNoteRawA
import Derived.Test.YtclpmadecibofaaNoteRaw10
import Derived.Test.YtclpmadecibofaaNoteRawB
import Derived.Test.YtclpmadecibofaaNoteSameR
namespace Go.Proofs.Ytclpmadecibofaa
open Go.ChangeShapes Go.WideShapes Go.ChangeAt Go.RowKit
set_option linter.unusedVariables false
set_option linter.unusedSimpArgs false

theorem refRead_any (w : World) (A : Option Addr) (n c : Nat) (L : List UInt8) (hr : Rds w 1 A n (bv L)) (hc : n ≤ c) (hcm : c ≤ maxLen) (hL : L.length ≤ 1000000) :
    Calls Try.prog 18 #[.slice A n c] w (ReadPost w L) := by
  have h : (cInt L false).1 < 1 ∨ 10 < (cInt L false).1 ∨ (cInt L false).1 = 1 ∨ (cInt L false).1 = 2 ∨ (cInt L false).1 = 3 ∨ (cInt L false).1 = 4 ∨ (cInt L false).1 = 5 ∨ (cInt L false).1 = 6 ∨ (cInt L false).1 = 7 ∨ (cInt L false).1 = 8 ∨ (cInt L false).1 = 9 ∨ (cInt L false).1 = 10 := by omega
  rcases h with h | h | h | h | h | h | h | h | h | h | h | h
  · exact raw_low w A n c L hr hc hcm hL h
  · exact raw_high w A n c L hr hc hcm hL h
  · exact raw_1 w A n c L hr hc hcm hL h
  · exact raw_2 w A n c L hr hc hcm hL h
  · exact raw_3 w A n c L hr hc hcm hL h
  · exact raw_4 w A n c L hr hc hcm hL h
  · exact raw_5 w A n c L hr hc hcm hL h
  · exact raw_6 w A n c L hr hc hcm hL h
  · exact raw_7 w A n c L hr hc hcm hL h
  · exact raw_8 w A n c L hr hc hcm hL h
  · exact raw_9 w A n c L hr hc hcm hL h
  · exact raw_10 w A n c L hr hc hcm hL h

/-- Every element of the row is a byte's cell. -/
def Cells8 (n : Nat) (A4 : Option Addr) (wr : World) : Prop := ∀ q, q < n → ∃ b4 cur x, A4 = some ⟨b4, 0, none⟩ ∧ Blk wr b4 5 cur ∧ cur[q]? = some (.int .u8 x)
theorem Cells8.own {w : World} {base n : Nat} {A4 : Option Addr} {c4 : Nat} {L : List UInt8} (h : Own8 w base (.slice A4 n c4) L) (hn : n = L.length) : Cells8 n A4 w := by
  intro q hq
  rcases h.2 with ⟨_, h0⟩ | ⟨g, cap, cur, e, _, hg, _, _, _, ht⟩
  · omega
  · injection e with e1 e2 e3
    refine ⟨g, cur, ((L[q]'(by omega)).toNat : Int), e1, hg, ?_⟩
    have h1 : (bv L)[q]? = some (.int .u8 ((L[q]'(by omega)).toNat : Int)) := by
      rw [bv_get, List.getElem?_eq_getElem (by omega)]
      rfl
    rw [← ht, List.getElem?_take] at h1
    split at h1
    · simpa using h1
    · cases h1
theorem Cells8.put {w : World} {n j : Nat} {b : Nat} (h : Cells8 n (some ⟨b, 0, none⟩) w) (z : Int) : Cells8 n (some ⟨b, 0, none⟩) (w.setCell ⟨b, j, none⟩ (.int .u8 z)) := by
  intro q hq
  obtain ⟨b4, cur, x, e, hb, hx⟩ := h q hq
  cases e
  by_cases hj : q = j
  · subst hj
    refine ⟨b, _, z, rfl, hb.put q _, ?_⟩
    have := (Array.getElem?_eq_some_iff.1 hx).1
    rw [Array.getElem?_setIfInBounds_self_of_lt this]
  · refine ⟨b, _, x, rfl, hb.put j _, ?_⟩
    rw [Array.getElem?_setIfInBounds_ne (by omega)]
    exact hx
theorem add_off (g o j : Nat) : (⟨g, o, none⟩ : Addr).add j = ⟨g, o + j, none⟩ := by unfold Addr.add; split <;> simp_all
/-- The rounds. -/
def RelF (n : Nat) (A4 : Option Addr) (c4 : Nat) (w9 : World) (i : Value) (wr : World) : Prop :=
  ∃ j : Nat, j ≤ n ∧ i = .int .i64 j ∧ Cells8 n A4 wr ∧ Chg (fun b => (Value.slice A4 n c4).ownBlock = some b) w9 wr

set_option maxRecDepth 100000 in
set_option maxHeartbeats 4000000 in
theorem noteReads_core (w : World) (A : Option Addr) (n c : Nat) (L : List UInt8) (hr : Rds w 1 A n (bv L)) (hnc : n ≤ c) (hcm : c ≤ maxLen) (hn : n ≤ 3000) :
    Calls Try.prog 5 #[.slice A n c] w fun e w2 => e = .returned (.bool true) ∧ Chg Non w w2 := by
  obtain rfl : n = L.length := hr.lenMap
  have Hr := Lib.hid hr
  clear hr
  go_enter Try.func5, Try.ntmps5
  go_wp2_with fail
  refine (note_alive w).mono ?_
  rintro e w1 ⟨rfl, hC1⟩
  have hr1 := Hr.out.non hC1
  go_wp2_with (at_builtin; refine app8b rfl _ (.tmp 19) rfl (Own8.nil _ w1.heap.size) rfl hr1 rfl ?_ ?_ ?_; (next => simp; omega); (next => exact Nat.le_refl _); intro v2 w2 h2 hc2 _; have hc2 := hc2.mono (S2 := Non) (fun _ e => by cases e); simp only [List.nil_append] at h2; obtain ⟨A4, n4, c4, rfl, hn4, _, _, hr4⟩ := h2.open_)
  obtain rfl : n4 = L.length := hn4.out
  have hC2 := hC1.non hc2
  have hob : ∀ b, (Value.slice A4 L.length c4).ownBlock = some b → w.heap.size ≤ b ∧ b < w2.heap.size := fun b e => ⟨by have := (World.ownsRow.lt h2 b e).1; have := hC1.size; omega, (World.ownsRow.lt h2 b e).2⟩
  clear hr1 hn4 hc2
  refine (read_any w2 A4 L.length c4 L hr4 (by omega)).mono ?_
  rintro e w3 ⟨A5, k5, c5, B5, m5, d5, rfl, hown3, hc3⟩
  obtain ⟨o, ho⟩ : ∃ o, rdN L = o := ⟨_, rfl⟩
  obtain ⟨x, hx⟩ : ∃ x, rdE L = x := ⟨_, rfl⟩
  rw [ho] at hown3
  rw [ho, hx]
  obtain ⟨w4, e4⟩ : ∃ w4, w3.alloc (.cells (NtC o A5 k5 c5 B5 m5 d5) 31) = w4 := ⟨_, rfl⟩
  have hc4 : Chg Non w3 w4 := e4 ▸ (Chg.refl _ _).alloc _
  have hN4 : Blk w4 w3.heap.size 31 (NtC o A5 k5 c5 B5 m5 d5) := e4 ▸ Blk.new _ _ _
  have hCe : Cells8 L.length A4 w4 := Cells8.own ((h2.non hc3).non hc4) rfl
  have hown4 := hown3.non hc4
  have hC4 := (hC2.non hc3).non hc4
  have hs23 := hc3.size
  have E4 := Lib.hid e4
  have Ho := Lib.hid ho
  have Hx := Lib.hid hx
  clear e4 ho hx h2 hr4 hown3 hc3 hc4 hC2
  unfold NtC
  go_wp2_with fail
  have e4 := E4.out
  unfold NtC at e4
  rw [e4]
  clear e4 E4
  go_loopw [7] (RelF L.length A4 c4 w4) (fun i _ => L.length - (intOf i).toNat)
  case atStart => exact ⟨0, Nat.zero_le _, rfl, hCe, Chg.refl _ _⟩
  case round =>
    clear hCe
    obtain ⟨j, hj, rfl, hCe, hc⟩ := hrel
    by_cases hlt : j < L.length
    · obtain ⟨b4, cur, y, rfl, hbk, hy⟩ := hCe j hlt
      have a0 : wr.cell? ⟨b4, j, none⟩ = some (.int .u8 y) := by rw [hbk.cell]; exact hy
      have a1 : wr.cell? ((⟨b4, 0, none⟩ : Addr).add j) = some (.int .u8 y) := by rw [add_off]; simpa using a0
      have f0 := hbk.frozen j
      have hob4 := (hob b4 rfl).2
      have hca : ∀ v, Chg (fun b => (Value.slice (some ⟨b4, 0, none⟩) L.length c4).ownBlock = some b) w4 (wr.setCell ⟨b4, j, none⟩ v) := fun v => hc.trans (((Chg.refl (fun b => b = b4) wr).set1 j v).mono (fun b e => by rw [show b = b4 from e]; rfl))
      have hcp := fun z => hCe.put (j := j) z
      have Hca := Lib.hid hca
      have Hcp := Lib.hid hcp
      have ead : ((⟨b4, 0, none⟩ : Addr).add j) = ⟨b4, j, none⟩ := by rw [add_off]; simp
      clear hca hcp hbk hy hCe hc hown4 hN4
      go_wp2_with fail
      go_roundw
      case rel => exact ⟨j + 1, by omega, by go_num, by first | exact Hcp.out _ | (rw [ead]; exact Hcp.out _), by first | exact Hca.out _ | (rw [ead]; exact Hca.out _)⟩
      case measure => simp [intOf]; omega
    · have hNr := hN4.chg hc (fun e => by have := (hob _ e).2; omega)
      have hownr : NtOwn wr w2.heap.size o A5 k5 c5 B5 m5 d5 := ⟨hown4.ok, hown4.args.chg hc (fun b hb e => by have := (hob _ e).2; have := (hown4.args.lt hb).1; omega), hown4.mems.chg hc (fun b hb e => by have := (hob _ e).2; have := (hown4.mems.lt hb).1; omega)⟩
      have hCr := hC4.trans2 hc (fun b e => .inr (hob b e).1)
      have hrd := refRead_any wr A L.length c L (Hr.out.non hCr) hnc hcm (by omega)
      clear hN4 hown4 hC4 hc hCe
      go_wp2_with fail
      refine hrd.mono ?_
      rintro e w5 ⟨A6, k6, c6, B6, m6, d6, rfl, hown6, hc5⟩
      rw [Ho.out] at hown6
      rw [Ho.out, Hx.out]
      obtain ⟨w6, e6⟩ : ∃ w6, w5.alloc (.cells (NtC o A6 k6 c6 B6 m6 d6) 31) = w6 := ⟨_, rfl⟩
      have hc6 : Chg Non w5 w6 := e6 ▸ (Chg.refl _ _).alloc _
      have hM6 : Blk w6 w5.heap.size 31 (NtC o A6 k6 c6 B6 m6 d6) := e6 ▸ Blk.new _ _ _
      have hN6 := (hNr.non hc5).non hc6
      have hC6 := (hCr.non hc5).non hc6
      have hsm := same_self w6 o A5 k5 c5 B5 m5 d5 A6 k6 c6 B6 m6 d6 ((hownr.non hc5).non hc6).at_ (hown6.non hc6).at_
      have E6 := Lib.hid e6
      clear e6 hNr hownr hCr hrd hown6 hc5 hc6
      unfold NtC
      go_wp2_with fail
      have e6 := E6.out
      unfold NtC at e6
      rw [e6]
      clear e6 E6
      refine (num_any _ _).mono ?_
      rintro e w7 ⟨rfl, rfl⟩
      have y0 := hN6.cell 0
      have y1 := hN6.cell 1
      have y2 := hN6.cell 2
      have y3 := hN6.cell 3
      have y4 := hN6.cell 4
      have y5 := hN6.cell 5
      have y6 := hN6.cell 6
      have y7 := hN6.cell 7
      have y8 := hN6.cell 8
      have y9 := hN6.cell 9
      have y10 := hN6.cell 10
      have z0 := hM6.cell 0
      have z1 := hM6.cell 1
      have z2 := hM6.cell 2
      have z3 := hM6.cell 3
      have z4 := hM6.cell 4
      have z5 := hM6.cell 5
      have z6 := hM6.cell 6
      have z7 := hM6.cell 7
      have z8 := hM6.cell 8
      have z9 := hM6.cell 9
      have z10 := hM6.cell 10
      simp only [NtC, List.getElem?_toArray, List.getElem?_cons_zero, List.getElem?_cons_succ] at y0 y1 y2 y3 y4 y5 y6 y7 y8 y9 y10 z0 z1 z2 z3 z4 z5 z6 z7 z8 z9 z10
      clear hN6 hM6
      go_wp2_with fail
      clear y0 y1 y2 y3 y4 y5 y6 y7 y8 y9 y10 z0 z1 z2 z3 z4 z5 z6 z7 z8 z9 z10
      refine hsm.mono ?_
      rintro e w8 ⟨rfl, hc8⟩
      go_wp2_with fail
      go_ret
      exact ⟨rfl, hC6.non hc8⟩

set_option maxRecDepth 100000 in
set_option maxHeartbeats 4000000 in
theorem noteReads_walk (w : World) (A : Option Addr) (n c : Nat) (e2 : Rd Try.prog w 34 (Value.slice A n c).cells.toList) :
    Calls Try.prog 5 #[.slice A n c] w fun e w2 => e = .returned (.bool true) ∧ Chg Non w w2 := by
  obtain ⟨A', n', c', L, h1, h2, h3, h4⟩ := e2.bytes Try.underlying34 (by kernel_rfl) Try.underlying5
  simp only [Value.cells, List.cons.injEq, and_true, Value.slice.injEq] at h1
  obtain ⟨rfl, rfl, rfl⟩ := h1
  by_cases hn : n ≤ 3000
  · exact noteReads_core w A n c L h4 h2 h3 hn
  · clear h4 e2
    unfold maxLen at h3
    have h5 : 3000 < n := by omega
    clear hn
    go_enter Try.func5, Try.ntmps5
    go_wp2_with fail
    refine (note_alive w).mono ?_
    rintro e w1 ⟨rfl, hc1⟩
    go_wp2_with fail
    go_ret
    exact ⟨rfl, hc1⟩
end Go.Proofs.Ytclpmadecibofaa
