/-
  gleanerlaw7.IdentSorts: the walk.
-/
import Derived.Test.YtbfekdgapcihmaaIdentDownWalk
import Derived.Test.YtbfekdgapcihmaaRefCommon
import Derived.Test.YtbfekdgapcihmaaIdentSort
import Derived.Test.YtbfekdgapcihmaaPutS
import Derived.Laws.OwnMore
namespace Go.Proofs.Ytbfekdgapcihmaa
open Go.RowKit
set_option linter.unusedVariables false
set_option linter.unusedSimpArgs false

set_option maxRecDepth 100000 in
set_option maxHeartbeats 8000000 in
theorem identSorts_core (w : World) (A : Option Addr) (n c : Nat) (L : List ByteArray) (hr : Rds w 1 A n (sv L)) (hn : n ≤ 200) :
    Calls Try.prog 5 #[.slice A n c] w fun e w2 => e = .returned (.bool true) ∧ Chg Non w w2 := by
  have Hr := Lib.hid hr
  have Hnl := Lib.hid hr.lenMap
  clear hr
  go_enter Try.func5, Try.ntmps5
  go_wp2_with fail
  refine (ident_alive _).mono ?_
  rintro e w1 ⟨rfl, hc1⟩
  go_wp2_with fail
  go_loopw [4] (fun i wr => ∃ k : Nat, k ≤ n ∧ i = .int .i64 k ∧ Hid (∀ s ∈ L.take k, s.size ≤ 200) ∧ Chg Non w wr) (fun i _ => n - (intOf i).toNat)
  case atStart => exact ⟨0, Nat.zero_le _, rfl, (fun s hs => by simp at hs), hc1⟩
  case round =>
    clear hc1
    obtain ⟨k, hk, rfl, hsz, hC⟩ := hrel
    by_cases hlt : k < n
    · obtain ⟨ad, x, rfl, hx, hcell⟩ := Hr.out.getS hlt
      have hcr := hC.cell hcell id
      by_cases hbig : x.size ≤ 200
      · have hsz2 : Hid (∀ s ∈ L.take (k + 1), s.size ≤ 200) := by
          intro s hs
          rw [List.take_add_one, hx] at hs
          rcases List.mem_append.1 hs with hs | hs
          · exact hsz.out s hs
          · simp at hs; subst hs; exact hbig
        clear hx hcell hsz
        go_wp2_with fail
        go_roundw
        case rel => exact ⟨k + 1, by omega, by go_num, hsz2, hC⟩
        case measure => simp [intOf]; omega
      · clear hx hcell hsz
        go_wp2_with fail
        go_ret
        exact ⟨rfl, hC⟩
    · have hall : ∀ s ∈ L, s.size ≤ 4611686018427387904 := fun s hs => Nat.le_trans (hsz.out s (by rw [show k = n by omega, Hnl.out, List.take_of_length_le (Nat.le_refl _)]; exact hs)) (by omega)
      have Hall := Lib.hid hall
      clear hsz hall
      obtain ⟨wA, rfl⟩ : ∃ wA, wA = wr := ⟨_, rfl⟩
      have hrl := Hr.out.non hC
      have hsA := hC.size
      go_wp2_with (at_builtin; refine appR (K := rkI) rfl _ (.tmp 30) rfl (OwnR.nil rkI wA wA.heap.size) rfl hrl rfl (svI_one _) ?_ ?_ ?_; (next => omega); (next => exact Nat.le_refl _); intro v1 w1 o1 c1 _; have d1 := c1.mono (S2 := Non) (fun _ e => by cases e); simp only [Nat.zero_add, List.nil_append] at o1; obtain ⟨A1, cp1, rfl, _, _, r1, _⟩ := o1.open_)
      have hC2 := hC.non d1
      clear hC hrl d1 c1
      refine (identSort_any _ _ n _ L r1 (by omega)).mono ?_
      rintro e w3 ⟨vS, m, rfl, hm, hS, hc3⟩
      have hC3 := hC2.non hc3
      have hO3 := (o1.non hc3).mono (b2 := w.heap.size) hsA
      have hob : Hid (∀ g, (Value.slice A1 n cp1).ownBlock = some g → g < w1.heap.size) := fun g h => (o1.lt h).2
      have hs1 := hC2.size
      have hs13 := hc3.size
      have hm2 : m ≤ 200 := by
        have h1 := risenS_le L
        have h2 : n = L.length := Hnl.out
        omega
      have Hm := Lib.hid hm
      clear hm o1 r1 hC2 hc3
      go_wp2_with fail
      refine (refSort_any _ A n c L (Hr.out.non hC3) (by omega)).mono ?_
      rintro e w4 ⟨vR, m4, rfl, hm4, hR, hc4⟩
      obtain ⟨AR, cR, rfl, _, _, rR, _⟩ := hR.open_
      have e4 : m4 = m := hm4.trans Hm.out.symm
      clear hm4
      subst e4
      have hS4 := hS.non hc4
      have hO4 := hO3.non hc4
      have hC4 := hC3.non hc4
      have hs34 := hc4.size
      obtain ⟨AS, cS, rfl, _, _, rS, _⟩ := hS4.open_
      clear hS hO3 hC3 hc4 hR
      have h5 := sameIDs_same w4 AS _ cS AR cR (risenS L) rS rR (by omega)
      clear rS rR
      go_wp2_with fail
      refine h5.mono ?_
      rintro e w5 ⟨rfl, hc5⟩
      have hS5 := hS4.non hc5
      have hO5 := hO4.non hc5
      have hC5 := hC4.non hc5
      have hs45 := hc5.size
      clear hS4 hO4 hC4 hc5 h5
      go_wp2_with fail
      refine (sameIDs_same w5 A1 n cp1 A c L hO5.rds (Hr.out.non hC5) (by omega)).mono ?_
      rintro e w6 ⟨rfl, hc6⟩
      have hS6 := hS5.non hc6
      have hO6 := hO5.non hc6
      have hC6 := hC5.non hc6
      have hs56 := hc6.size
      clear hS5 hO5 hC5 hc6
      obtain ⟨b0, hb0⟩ : ∃ b0, w1.heap.size = b0 := ⟨_, rfl⟩
      rw [hb0] at hS6 hob hs1 hs13
      clear hb0
      have hx6 : Hid (∃ xs, OwnR rkI w6 b0 (.slice AS m4 cS) m4 xs) := ⟨_, hS6⟩
      clear hS6
      go_wp2_with fail
      go_loopw [8] (fun i wr => ∃ j : Nat, j ≤ m4 ∧ i = .int .i64 j ∧ Hid (∃ xs, OwnR rkI wr b0 (.slice AS m4 cS) m4 xs) ∧ OwnR rkI wr w.heap.size (.slice A1 n cp1) n (sv L) ∧ Chg Non w wr) (fun i _ => m4 - (intOf i).toNat)
      case atStart => exact ⟨0, Nat.zero_le _, rfl, hx6, hO6, hC6⟩
      case round =>
        clear hx6 hO6 hC6
        obtain ⟨j, hj, rfl, hl, hO, hC⟩ := hrel
        by_cases hlt2 : j < m4
        · obtain ⟨xs, hx⟩ := hl.out
          obtain ⟨gx, cap, hv, hg1, hg2⟩ := World.ownsRow.form hx (by omega)
          injection hv with e1 e2 e3
          subst e1 e3
          have hlen : xs.length = m4 * 1 := hx.1
          have q1 : wr.cell? ⟨gx, j, none⟩ = xs[j]? := World.ownsRow.cellAt hx j (by show j < m4 * 1; omega)
          rw [List.getElem?_eq_getElem (by omega)] at q1
          have f1 : wr.frozen? ⟨gx, j, none⟩ = false := World.ownsRow.frozenAt hx j
          have hst := (World.ownsRow.stored hx j (.string ⟨#[120]⟩)).1
          have hl2 : Hid (∃ xs, OwnR rkI (wr.setCell ⟨gx, j, none⟩ (.string ⟨#[120]⟩)) b0 (.slice (some ⟨gx, 0, none⟩) m4 cS) m4 xs) := ⟨_, hst⟩
          have hS1 : Chg (fun b => b = gx) wr (wr.setCell ⟨gx, j, none⟩ (.string ⟨#[120]⟩)) := (Chg.refl _ _).set1 j _
          have hO2 := hO.chg hS1 (fun b h e => by have := hob.out b h; have e : b = gx := e; omega)
          have hC2 := hC.trans2 hS1 (fun b e => .inr (by have e : b = gx := e; omega))
          clear hst hx hl hC hO hS1
          go_wp2_with fail
          go_roundw
          case rel => exact ⟨j + 1, by omega, by go_num, hl2, hO2, hC2⟩
          case measure => simp [intOf]; omega
        · clear hl
          obtain ⟨wB, rfl⟩ : ∃ wB, wB = wr := ⟨_, rfl⟩
          go_wp2_with fail
          refine (sameIDs_same wB A1 n cp1 A c L hO.rds (Hr.out.non hC) (by omega)).mono ?_
          rintro e w7 ⟨rfl, hc7⟩
          have hC7 := hC.non hc7
          clear hO hC hc7
          obtain ⟨cm, hcm⟩ : ∃ cm, common L = cm := ⟨_, rfl⟩
          go_wp2_with fail
          refine (common_any A n c L _ (Hr.out.non hC7) (by omega) Hall.out).mono ?_
          rintro e w8 ⟨rfl, hc8⟩
          rw [hcm]
          have hC8 := hC7.non hc8
          go_wp2_with fail
          refine (refCommon_any A n c L _ (Hr.out.non hC8) (by omega) Hall.out).mono ?_
          rintro e w9 ⟨rfl, hc9⟩
          rw [hcm]
          have hC9 := hC8.non hc9
          go_wp2_with fail
          go_ret
          exact ⟨rfl, hC9⟩
theorem Rd.names {P : Program} {w : World} {t : TypeId} {cs : List Value} {e : TypeId} (ht : P.underlying t = some (.slice e)) (hc : P.cellsOf e = 1) (he : P.underlying e = some .string) (h : Rd P w t cs) :
    ∃ A n c L, cs = [.slice A n c] ∧ n ≤ c ∧ c ≤ maxLen ∧ Rds w 1 A n (sv L) := by
  obtain ⟨A, n, c, vs, h1, h2, h3, h4, h5⟩ := h.slice1 ht hc
  obtain ⟨l, rfl, _⟩ := all_map (f := Value.string) (Q := fun _ => True) (vs := vs) fun u hu => by
    obtain ⟨n, h1, _⟩ := (h5 u hu).string he
    simp only [List.cons.injEq, and_true] at h1
    exact ⟨n, h1, trivial⟩
  exact ⟨A, n, c, l, h1, h2, h3, h4⟩
theorem identSorts_walk (w : World) (A : Option Addr) (n c : Nat) (e0 : Rd Try.prog w 24 (Value.slice A n c).cells.toList) :
    Calls Try.prog 5 #[.slice A n c] w fun e w2 => e = .returned (.bool true) ∧ Chg Non w w2 := by
  obtain ⟨A', n', c', l, g1, g2, g3, g4⟩ := e0.names Try.underlying24 (by kernel_rfl) Try.underlying25
  simp only [Value.cells, List.cons.injEq, and_true, Value.slice.injEq] at g1
  obtain ⟨rfl, rfl, rfl⟩ := g1
  by_cases hn : n ≤ 200
  · exact identSorts_core w A n c l g4 hn
  · clear g4 e0
    unfold maxLen at g3
    have k1 : 200 < n := by omega
    clear hn
    go_enter Try.func5, Try.ntmps5
    go_wp2_with fail
    refine (ident_alive _).mono ?_
    rintro e w1 ⟨rfl, hc1⟩
    go_wp2_with fail
    go_ret
    exact ⟨rfl, hc1⟩
end Go.Proofs.Ytbfekdgapcihmaa
