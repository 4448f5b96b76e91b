/-
  gleanerlaw18.ViewTells: the walk.
-/
import Derived.Test.YtojlglkefiddnaaViewRefWith
import Derived.Test.YtojlglkefiddnaaViewRefWithout
import Derived.Test.YtojlglkefiddnaaViewWith
import Derived.Test.YtojlglkefiddnaaViewLastWalk
import Derived.Test.YtojlglkefiddnaaViewNewestWalk
import Derived.Test.YtojlglkefiddnaaViewRd
import Derived.Test.YtojlglkefiddnaaRegionM
namespace Go.Proofs.Ytojlglkefiddnaa
open Go.ChangeShapes Go.WideShapes Go.ChangeAt Go.RowKit Go.Deep
set_option linter.unusedVariables false
set_option linter.unusedSimpArgs false

def firstE (x : Int) : Int := if 1 ≤ x ∧ x ≤ 16 then 0 else 1
def firstV (x : Int) : Int × List Mb := if 1 ≤ x ∧ x ≤ 16 then (1, firstM x.toNat) else (0, [])

set_option maxRecDepth 100000 in
set_option maxHeartbeats 600000 in
theorem first_no (w : World) (x : Int) (h : ¬ (1 ≤ x ∧ x ≤ 16)) :
    Calls Try.prog 9 #[.int .i64 x] w (VwR w 0 [] 1) := by
  obtain ⟨w1, hw1⟩ : ∃ w1, w.alloc (.cells #[.int .i64 0, .slice none 0 0] 26) = w1 := ⟨_, rfl⟩
  have hC : Chg Non w w1 := hw1 ▸ (Chg.refl _ _).alloc _
  have hbR : Blk w1 w.heap.size 26 #[.int .i64 0, .slice none 0 0] := hw1 ▸ Blk.new _ _ _
  have d0 := hbR.cell 0
  have d1 := hbR.cell 1
  have e0 := hbR.frozen 0
  have e1 := hbR.frozen 1
  simp only [List.getElem?_toArray, List.getElem?_cons_zero, List.getElem?_cons_succ] at d0 d1
  have hb4 := (hbR.put 0 (.int .i64 0)).put 1 (.slice none 0 0)
  simp only [List.setIfInBounds_toArray, List.set_cons_succ, List.set_cons_zero] at hb4
  have r0 := hb4.cell 0
  have r1 := hb4.cell 1
  simp only [List.getElem?_toArray, List.getElem?_cons_zero, List.getElem?_cons_succ] at r0 r1
  have hC4 := Lib.hid (VwR.no (x := 1) ((hC.setCell (p := ⟨w.heap.size, 0, none⟩) (.inr (by simp)) (.int .i64 0)).setCell (p := ⟨w.heap.size, 1, none⟩) (.inr (by simp)) (.slice none 0 0)))
  have hcase : x < 1 ∨ (1 ≤ x ∧ 16 < x) := by omega
  clear hb4 hbR hC h
  rcases hcase with h | ⟨h, h2⟩
  all_goals
    go_enter Try.func9, Try.ntmps9
    go_wp2_with fail
    exact bodyPost_ret (v := .tuple #[.agg #[.int .i64 0, .slice none 0 0], .int .i64 1]) (by simp [results, Try.results9, go_sem, r0, r1]) rfl hC4.out

theorem firstBoth (w : World) (x : Int) : Calls Try.prog 9 #[.int .i64 x] w (VwR w (firstV x).1 (firstV x).2 (firstE x)) ∧ Calls Try.prog 22 #[.int .i64 x] w (VwR w (firstV x).1 (firstV x).2 (firstE x)) := by
  unfold firstV firstE
  by_cases h : 1 ≤ x ∧ x ≤ 16
  · rw [if_pos h, if_pos h]
    obtain ⟨n, rfl⟩ : ∃ n : Nat, x = (n : Int) := ⟨x.toNat, by omega⟩
    rw [Int.toNat_natCast]
    refine ⟨(first_yes w n (by omega) (by omega)).mono ?_, refFirst_yes w n (by omega) (by omega)⟩
    rintro e w2 ⟨A, c, h1, h2, h3, h4⟩
    exact ⟨A, n, c, h1, h2, h3, h4⟩
  · rw [if_neg h, if_neg h]
    exact ⟨first_no w x h, refFirst_no w x h⟩

theorem withoutPr (w : World) (ep : Int) (A : Option Addr) (n c : Nat) (L : List Mb) (B : Option Addr) (m d : Nat) (N : List Int) (h1 : Rds w 2 A n (mv L)) (hn : n ≤ 1000000000) (h2 : Rds w 1 B m (iv N)) (hm : m ≤ 9223372036854775807) :
    Calls Try.prog 10 #[.agg #[.int .i64 ep, .slice A n c], .slice B m d] w (VwR w (withoutV ep L N).1 (withoutV ep L N).2 (withoutE ep L N)) := by
  obtain rfl := mv_len h1
  unfold withoutV withoutE
  cases hb : badB ep L N with
  | true =>
    refine (without_no w ep A _ c L B m d N h1 (by omega) h2 hm hb).mono ?_
    rintro e w2 ⟨rfl, hc⟩
    exact VwR.no hc
  | false =>
    by_cases he : ep = 2147483647
    · rw [if_neg Bool.false_ne_true, if_pos he, if_neg (by decide)]
      refine (without_limit w ep A _ c L B m d N h1 (by omega) h2 hm hb he).mono ?_
      rintro e w2 ⟨rfl, hc⟩
      exact VwR.no hc
    · rw [if_neg Bool.false_ne_true, if_neg he, if_pos rfl]
      refine (without_yes w ep A c L B m d N h1 (by omega) h2 hm hb he).mono ?_
      rintro e w2 ⟨A2, c2, rfl, h3, h4, h5⟩
      exact ⟨A2, _, c2, rfl, h3, h4, h5⟩
theorem withPr (w : World) (ep : Int) (A : Option Addr) (n c : Nat) (L : List Mb) (x life : Int) (h1 : Rds w 2 A n (mv L)) (hn : n ≤ 1000000000) :
    Calls Try.prog 19 #[.agg #[.int .i64 ep, .slice A n c], .int .i64 x, .int .i64 life] w (VwR w (withV ep L x life).1 (withV ep L x life).2 (withE ep L x life)) := by
  unfold withV
  by_cases h : withE ep L x life = 0
  · rw [if_pos h, h]
    refine (with_yes w ep A n c L x life h1 (by omega) h).mono ?_
    rintro e w2 ⟨A2, c2, rfl, h3, h5⟩
    exact ⟨A2, _, c2, rfl, Win.of_own h3, fun b hb => (h3.lt hb).1, h5⟩
  · rw [if_neg h]
    refine (with_no w ep A n c L x life h1 (by omega) h).mono ?_
    rintro e w2 ⟨rfl, hc⟩
    exact VwR.no hc

theorem add_mk (g o i : Nat) : (⟨g, o, none⟩ : Addr).add i = ⟨g, o + i, none⟩ := by
  unfold Addr.add
  by_cases h : i = 0
  · subst h; simp
  · simp [h]
/-- The row's nodes may be written. -/
def Wipe (w : World) (A : Option Addr) (n : Nat) : Prop := n = 0 ∨ ∃ g o cur, A = some ⟨g, o, none⟩ ∧ Blk w g 43 cur ∧ o + n * 2 ≤ cur.size
theorem Wipe.of_win {w : World} {A : Option Addr} {n c : Nat} {xs : List Value} (h : Win rkM w (.slice A n c) n xs) : Wipe w A n := by
  rcases h.2 with ⟨_, h0⟩ | ⟨g, o, c2, cur, hv, hb, h1, _, h3, _⟩
  · exact .inl h0
  · injection hv with e1 e2 e3
    exact .inr ⟨g, o, cur, e1, hb, by have h3 : o + c2 * 2 ≤ cur.size := h3; omega⟩
theorem Wipe.chg {w w2 : World} {S : Nat → Prop} {A : Option Addr} {n : Nat} (h : Wipe w A n) (hc : Chg S w w2) (hn : ∀ ad, A = some ad → ¬ S ad.block) : Wipe w2 A n := by
  rcases h with h | ⟨g, o, cur, rfl, hb, h1⟩
  · exact .inl h
  · exact .inr ⟨g, o, cur, rfl, hb.chg hc (hn _ rfl), h1⟩
theorem Wipe.at_ {w : World} {A : Option Addr} {n k : Nat} (h : Wipe w A n) (hk : k < n) : ∃ ad u, A = some ad ∧ w.cell? (ad.add (k * 2)) = some u ∧ w.frozen? (ad.add (k * 2)) = false := by
  rcases h with h | ⟨g, o, cur, rfl, hb, h1⟩
  · omega
  · have hl : o + k * 2 < cur.size := by omega
    have h2 := (hb.cell (o + k * 2)).trans (Array.getElem?_eq_getElem hl)
    have h3 := hb.frozen (o + k * 2)
    exact ⟨_, cur[o + k * 2], rfl, by rw [add_mk]; exact h2, by rw [add_mk]; exact h3⟩
theorem Wipe.set {w : World} {ad : Addr} {n : Nat} (h : Wipe w (some ad) n) (i : Nat) (u : Value) : Wipe (w.setCell (ad.add i) u) (some ad) n := by
  rcases h with h | ⟨g, o, cur, e, hb, h1⟩
  · exact .inl h
  · obtain rfl := Option.some.inj e
    have h2 := hb.put (o + i) u
    exact .inr ⟨g, o, cur.setIfInBounds (o + i) u, rfl, by rw [add_mk]; exact h2, by rw [Array.size_setIfInBounds]; exact h1⟩
theorem own_some {A : Option Addr} {n c : Nat} {ad : Addr} (h : A = some ad) : (Value.slice A n c).ownBlock = some ad.block := by rw [h]; rfl

theorem Rd.len {P : Program} {w : World} {t : TypeId} {cs : List Value} {fs : Array Field} (ht : P.underlying t = some (.struct fs)) (h : Rd P w t cs) : cs.length = P.cellsOf t := by
  obtain ⟨H, enc, base, spare, held, fuel, x, h⟩ := h
  obtain ⟨xs, n, _, _, hl, hxl, hg⟩ := DataW.trod_struct ht h
  exact hl
theorem Rd.viewG {w : World} {S : Array Value} (h : Rd Try.prog w 26 (Value.agg S).cells.toList) : ∃ v : Vw, S = #[.int .i64 v.ep, .slice v.A v.n v.c] ∧ v.ok w := by
  have hl := h.len Try.underlying26
  rw [show Try.prog.cellsOf 26 = 2 by kernel_rfl] at hl
  obtain ⟨v, hv, hok⟩ := h.view hl
  refine ⟨v, ?_, hok⟩
  have hv2 : S.toList = cellV v := hv
  rw [← Array.toArray_toList (xs := S), hv2]
  rfl

set_option maxRecDepth 100000 in
set_option maxHeartbeats 2000000 in
theorem viewTells_much (w : World) (ep : Int) (A : Option Addr) (n c : Nat) (B : Option Addr) (m d : Nat) (node life epoch : Int) (h : 200 < n ∨ (n ≤ 200 ∧ 100 < m)) :
    Calls Try.prog 6 #[.agg #[.int .i64 ep, .slice A n c], .slice B m d, .int .i64 node, .int .i64 life, .int .i64 epoch] w fun e w2 => e = .returned (.bool true) ∧ Chg Non w w2 := by
  obtain ⟨w1, hw1⟩ : ∃ w1, w.alloc (.cells #[.int .i64 ep, .slice A n c] 26) = w1 := ⟨_, rfl⟩
  have hC : Chg Non w w1 := hw1 ▸ (Chg.refl _ _).alloc _
  have hbV : Blk w1 w.heap.size 26 #[.int .i64 ep, .slice A n c] := hw1 ▸ Blk.new _ _ _
  have hd : (decide (200 < n) = true) ∨ (decide (200 < n) = false ∧ 100 < m) := by
    rcases h with h | ⟨h, h2⟩
    · exact .inl (decide_eq_true h)
    · exact .inr ⟨decide_eq_false (by omega), h2⟩
  clear h
  rcases hd with hd | ⟨hd, hm⟩
  all_goals
    go_enter Try.func6, Try.ntmps6
    go_wp2_with fail
    refine (view_alive _).mono ?_
    rintro e w2 ⟨rfl, hc2⟩
    have hC2 := hC.non hc2
    have hbV2 := hbV.non hc2
    have v0 := hbV2.cell 0
    have v1 := hbV2.cell 1
    have vl := hbV2.lt
    simp only [List.getElem?_toArray, List.getElem?_cons_zero, List.getElem?_cons_succ] at v0 v1
    clear hw1
    go_wp2_with fail
    refine (big_any _ ep A n c).mono ?_
    rintro e w3 ⟨rfl, hc3⟩
    rw [hd]
    have hC3 := hC2.non hc3
    clear v0 v1 vl hd
    go_wp2_with fail
    go_ret
    exact ⟨rfl, hC3⟩

set_option maxRecDepth 100000 in
set_option maxHeartbeats 8000000 in
theorem viewTells_core (w : World) (ep : Int) (A : Option Addr) (n c : Nat) (L : List Mb) (B : Option Addr) (m d : Nat) (N : List Int) (node life epoch : Int) (h1 : Rds w 2 A n (mv L)) (hn : n ≤ 200) (h2 : Rds w 1 B m (iv N)) (hm : m ≤ 100) :
    Calls Try.prog 6 #[.agg #[.int .i64 ep, .slice A n c], .slice B m d, .int .i64 node, .int .i64 life, .int .i64 epoch] w fun e w2 => e = .returned (.bool true) ∧ Chg Non w w2 := by
  have hB9 : ∀ ad, A = some ad → 0 < n → ad.block < w.heap.size := fun ad e h => by
    obtain ⟨ad2, m2, e2, _, h3, _⟩ := h1.getM h
    rw [e] at e2
    obtain rfl := Option.some.inj e2
    exact World.block_lt_of_cell? w _ h3
  obtain ⟨w1, hw1⟩ : ∃ w1, w.alloc (.cells #[.int .i64 ep, .slice A n c] 26) = w1 := ⟨_, rfl⟩
  have hC : Chg Non w w1 := hw1 ▸ (Chg.refl _ _).alloc _
  have hbV : Blk w1 w.heap.size 26 #[.int .i64 ep, .slice A n c] := hw1 ▸ Blk.new _ _ _
  have H1 := h1.non hC
  have H2 := h2.non hC
  have hd : decide (200 < n) = false := decide_eq_false (by omega)
  clear h1 h2
  go_enter Try.func6, Try.ntmps6
  go_wp2_with fail
  refine (view_alive _).mono ?_
  rintro e w2 ⟨rfl, hc2⟩
  replace hC := hC.non hc2
  replace hbV := hbV.non hc2
  replace H1 := H1.non hc2
  replace H2 := H2.non hc2
  obtain ⟨b0, hb0⟩ : ∃ b0, w.heap.size = b0 := ⟨_, rfl⟩
  have hb0w : w.heap.size ≤ b0 := by omega
  rw [hb0] at hbV ⊢
  clear hw1 hb0
  have v0 := hbV.cell 0
  have v1 := hbV.cell 1
  have vl := hbV.lt
  simp only [List.getElem?_toArray, List.getElem?_cons_zero, List.getElem?_cons_succ] at v0 v1
  clear hc2
  go_wp2_with fail
  refine (big_any _ ep A n c).mono ?_
  rintro e w3 ⟨rfl, hc3⟩
  rw [hd]
  clear hd
  replace hC := hC.non hc3
  replace hbV := hbV.non hc3
  replace H1 := H1.non hc3
  replace H2 := H2.non hc3
  clear v0 v1 vl hc3
  have v0 := hbV.cell 0
  have v1 := hbV.cell 1
  have vl := hbV.lt
  simp only [List.getElem?_toArray, List.getElem?_cons_zero, List.getElem?_cons_succ] at v0 v1
  have hHas := fun wx (h : Chg Non w3 wx) => refHas_any wx ep A n c L node life (H1.non h) (by omega)
  clear hHas
  have hK := withoutPr w3 ep A n c L B m d N H1 (by omega) H2 (by omega)
  obtain ⟨E1, hE1⟩ : ∃ E, (withoutV ep L N).1 = E := ⟨_, rfl⟩
  obtain ⟨M1, hM1⟩ : ∃ M, (withoutV ep L N).2 = M := ⟨_, rfl⟩
  obtain ⟨X1, hX1⟩ : ∃ X, withoutE ep L N = X := ⟨_, rfl⟩
  rw [hE1, hM1, hX1] at hK
  replace hE1 := Lib.hid hE1
  replace hM1 := Lib.hid hM1
  replace hX1 := Lib.hid hX1
  go_wp2_with fail
  refine hK.mono ?_
  clear hK
  rintro e w10 ⟨A1, n1, c1, rfl, W1, O1, hcK⟩
  replace O1 : ∀ b, (Value.slice A1 n1 c1).ownBlock = some b → w.heap.size ≤ b := fun b hb => Nat.le_trans hC.size (O1 b hb)
  obtain ⟨w11, hwZ⟩ : ∃ wz, w10.alloc (.cells #[.int .i64 E1, .slice A1 n1 c1] 26) = wz := ⟨_, rfl⟩
  have hcZ : Chg Non w3 w11 := hwZ ▸ hcK.alloc _
  have hb1 : Blk w11 w10.heap.size 26 #[.int .i64 E1, .slice A1 n1 c1] := hwZ ▸ Blk.new _ _ _
  replace W1 := W1.non ((Chg.refl _ w10).alloc (.cells #[.int .i64 E1, .slice A1 n1 c1] 26))
  rw [hwZ] at W1
  replace hC := hC.non hcZ
  replace hbV := hbV.non hcZ
  replace H1 := H1.non hcZ
  replace H2 := H2.non hcZ
  clear v0 v1 vl hcK hcZ
  have v0 := hbV.cell 0
  have v1 := hbV.cell 1
  have vl := hbV.lt
  simp only [List.getElem?_toArray, List.getElem?_cons_zero, List.getElem?_cons_succ] at v0 v1
  obtain ⟨g1, hg1⟩ : ∃ g, w10.heap.size = g := ⟨_, rfl⟩
  rw [hg1] at hb1

  have hK := refWithout_any w11 ep A n c L B m d N H1 (by omega) H2 (by omega)
  obtain ⟨E2, hE2⟩ : ∃ E, (withoutV ep L N).1 = E := ⟨_, rfl⟩
  obtain ⟨M2, hM2⟩ : ∃ M, (withoutV ep L N).2 = M := ⟨_, rfl⟩
  obtain ⟨X2, hX2⟩ : ∃ X, withoutE ep L N = X := ⟨_, rfl⟩
  rw [hE2, hM2, hX2] at hK
  replace hE2 := Lib.hid hE2
  replace hM2 := Lib.hid hM2
  replace hX2 := Lib.hid hX2
  go_wp2_with fail
  refine hK.mono ?_
  clear hK
  rintro e w12 ⟨A2, n2, c2, rfl, W2, O2, hcK⟩
  replace O2 : ∀ b, (Value.slice A2 n2 c2).ownBlock = some b → w.heap.size ≤ b := fun b hb => Nat.le_trans hC.size (O2 b hb)
  obtain ⟨w13, hwZ⟩ : ∃ wz, w12.alloc (.cells #[.int .i64 E2, .slice A2 n2 c2] 26) = wz := ⟨_, rfl⟩
  have hcZ : Chg Non w11 w13 := hwZ ▸ hcK.alloc _
  have hb2 : Blk w13 w12.heap.size 26 #[.int .i64 E2, .slice A2 n2 c2] := hwZ ▸ Blk.new _ _ _
  replace W2 := W2.non ((Chg.refl _ w12).alloc (.cells #[.int .i64 E2, .slice A2 n2 c2] 26))
  rw [hwZ] at W2
  replace hC := hC.non hcZ
  replace hbV := hbV.non hcZ
  replace H1 := H1.non hcZ
  replace H2 := H2.non hcZ
  replace W1 := W1.non hcZ
  replace hb1 := hb1.non hcZ
  clear v0 v1 vl hcK hcZ
  have v0 := hbV.cell 0
  have v1 := hbV.cell 1
  have vl := hbV.lt
  simp only [List.getElem?_toArray, List.getElem?_cons_zero, List.getElem?_cons_succ] at v0 v1
  obtain ⟨g2, hg2⟩ : ∃ g, w12.heap.size = g := ⟨_, rfl⟩
  rw [hg2] at hb2

  have hK := withPr w13 ep A n c L node life H1 (by omega)
  obtain ⟨E3, hE3⟩ : ∃ E, (withV ep L node life).1 = E := ⟨_, rfl⟩
  obtain ⟨M3, hM3⟩ : ∃ M, (withV ep L node life).2 = M := ⟨_, rfl⟩
  obtain ⟨X3, hX3⟩ : ∃ X, withE ep L node life = X := ⟨_, rfl⟩
  rw [hE3, hM3, hX3] at hK
  replace hE3 := Lib.hid hE3
  replace hM3 := Lib.hid hM3
  replace hX3 := Lib.hid hX3
  go_wp2_with fail
  refine hK.mono ?_
  clear hK
  rintro e w14 ⟨A3, n3, c3, rfl, W3, O3, hcK⟩
  have O3c := O3
  replace O3 : ∀ b, (Value.slice A3 n3 c3).ownBlock = some b → w.heap.size ≤ b := fun b hb => Nat.le_trans hC.size (O3 b hb)
  obtain ⟨w15, hwZ⟩ : ∃ wz, w14.alloc (.cells #[.int .i64 E3, .slice A3 n3 c3] 26) = wz := ⟨_, rfl⟩
  have hcZ : Chg Non w13 w15 := hwZ ▸ hcK.alloc _
  have hb3 : Blk w15 w14.heap.size 26 #[.int .i64 E3, .slice A3 n3 c3] := hwZ ▸ Blk.new _ _ _
  replace W3 := W3.non ((Chg.refl _ w14).alloc (.cells #[.int .i64 E3, .slice A3 n3 c3] 26))
  rw [hwZ] at W3
  have O31 : ∀ b, (Value.slice A3 n3 c3).ownBlock = some b → (Value.slice A1 n1 c1).ownBlock ≠ some b := fun b hb e => by have h1 := W1.lt e; have h2 := O3c b hb; omega
  replace hC := hC.non hcZ
  replace hbV := hbV.non hcZ
  replace H1 := H1.non hcZ
  replace H2 := H2.non hcZ
  replace W1 := W1.non hcZ
  replace hb1 := hb1.non hcZ
  replace W2 := W2.non hcZ
  replace hb2 := hb2.non hcZ
  clear v0 v1 vl hcK hcZ
  have v0 := hbV.cell 0
  have v1 := hbV.cell 1
  have vl := hbV.lt
  simp only [List.getElem?_toArray, List.getElem?_cons_zero, List.getElem?_cons_succ] at v0 v1
  obtain ⟨g3, hg3⟩ : ∃ g, w14.heap.size = g := ⟨_, rfl⟩
  rw [hg3] at hb3

  have hK := refWith_any w15 ep A n c L node life H1 (by omega)
  obtain ⟨E4, hE4⟩ : ∃ E, (withV ep L node life).1 = E := ⟨_, rfl⟩
  obtain ⟨M4, hM4⟩ : ∃ M, (withV ep L node life).2 = M := ⟨_, rfl⟩
  obtain ⟨X4, hX4⟩ : ∃ X, withE ep L node life = X := ⟨_, rfl⟩
  rw [hE4, hM4, hX4] at hK
  replace hE4 := Lib.hid hE4
  replace hM4 := Lib.hid hM4
  replace hX4 := Lib.hid hX4
  go_wp2_with fail
  refine hK.mono ?_
  clear hK
  rintro e w16 ⟨A4, n4, c4, rfl, W4, O4, hcK⟩
  replace O4 : ∀ b, (Value.slice A4 n4 c4).ownBlock = some b → w.heap.size ≤ b := fun b hb => Nat.le_trans hC.size (O4 b hb)
  obtain ⟨w17, hwZ⟩ : ∃ wz, w16.alloc (.cells #[.int .i64 E4, .slice A4 n4 c4] 26) = wz := ⟨_, rfl⟩
  have hcZ : Chg Non w15 w17 := hwZ ▸ hcK.alloc _
  have hb4 : Blk w17 w16.heap.size 26 #[.int .i64 E4, .slice A4 n4 c4] := hwZ ▸ Blk.new _ _ _
  replace W4 := W4.non ((Chg.refl _ w16).alloc (.cells #[.int .i64 E4, .slice A4 n4 c4] 26))
  rw [hwZ] at W4
  replace hC := hC.non hcZ
  replace hbV := hbV.non hcZ
  replace H1 := H1.non hcZ
  replace H2 := H2.non hcZ
  replace W1 := W1.non hcZ
  replace hb1 := hb1.non hcZ
  replace W2 := W2.non hcZ
  replace hb2 := hb2.non hcZ
  replace W3 := W3.non hcZ
  replace hb3 := hb3.non hcZ
  clear v0 v1 vl hcK hcZ
  have v0 := hbV.cell 0
  have v1 := hbV.cell 1
  have vl := hbV.lt
  simp only [List.getElem?_toArray, List.getElem?_cons_zero, List.getElem?_cons_succ] at v0 v1
  obtain ⟨g4, hg4⟩ : ∃ g, w16.heap.size = g := ⟨_, rfl⟩
  rw [hg4] at hb4

  have hK := (firstBoth w17 node).1
  obtain ⟨E5, hE5⟩ : ∃ E, (firstV node).1 = E := ⟨_, rfl⟩
  obtain ⟨M5, hM5⟩ : ∃ M, (firstV node).2 = M := ⟨_, rfl⟩
  obtain ⟨X5, hX5⟩ : ∃ X, firstE node = X := ⟨_, rfl⟩
  rw [hE5, hM5, hX5] at hK
  replace hE5 := Lib.hid hE5
  replace hM5 := Lib.hid hM5
  replace hX5 := Lib.hid hX5
  go_wp2_with fail
  refine hK.mono ?_
  clear hK
  rintro e w18 ⟨A5, n5, c5, rfl, W5, O5, hcK⟩
  replace O5 : ∀ b, (Value.slice A5 n5 c5).ownBlock = some b → w.heap.size ≤ b := fun b hb => Nat.le_trans hC.size (O5 b hb)
  obtain ⟨w19, hwZ⟩ : ∃ wz, w18.alloc (.cells #[.int .i64 E5, .slice A5 n5 c5] 26) = wz := ⟨_, rfl⟩
  have hcZ : Chg Non w17 w19 := hwZ ▸ hcK.alloc _
  have hb5 : Blk w19 w18.heap.size 26 #[.int .i64 E5, .slice A5 n5 c5] := hwZ ▸ Blk.new _ _ _
  replace W5 := W5.non ((Chg.refl _ w18).alloc (.cells #[.int .i64 E5, .slice A5 n5 c5] 26))
  rw [hwZ] at W5
  replace hC := hC.non hcZ
  replace hbV := hbV.non hcZ
  replace H1 := H1.non hcZ
  replace H2 := H2.non hcZ
  replace W1 := W1.non hcZ
  replace hb1 := hb1.non hcZ
  replace W2 := W2.non hcZ
  replace hb2 := hb2.non hcZ
  replace W3 := W3.non hcZ
  replace hb3 := hb3.non hcZ
  replace W4 := W4.non hcZ
  replace hb4 := hb4.non hcZ
  clear v0 v1 vl hcK hcZ
  have v0 := hbV.cell 0
  have v1 := hbV.cell 1
  have vl := hbV.lt
  simp only [List.getElem?_toArray, List.getElem?_cons_zero, List.getElem?_cons_succ] at v0 v1
  obtain ⟨g5, hg5⟩ : ∃ g, w18.heap.size = g := ⟨_, rfl⟩
  rw [hg5] at hb5

  have hK := (firstBoth w19 node).2
  obtain ⟨E6, hE6⟩ : ∃ E, (firstV node).1 = E := ⟨_, rfl⟩
  obtain ⟨M6, hM6⟩ : ∃ M, (firstV node).2 = M := ⟨_, rfl⟩
  obtain ⟨X6, hX6⟩ : ∃ X, firstE node = X := ⟨_, rfl⟩
  rw [hE6, hM6, hX6] at hK
  replace hE6 := Lib.hid hE6
  replace hM6 := Lib.hid hM6
  replace hX6 := Lib.hid hX6
  go_wp2_with fail
  refine hK.mono ?_
  clear hK
  rintro e w20 ⟨A6, n6, c6, rfl, W6, O6, hcK⟩
  replace O6 : ∀ b, (Value.slice A6 n6 c6).ownBlock = some b → w.heap.size ≤ b := fun b hb => Nat.le_trans hC.size (O6 b hb)
  obtain ⟨w21, hwZ⟩ : ∃ wz, w20.alloc (.cells #[.int .i64 E6, .slice A6 n6 c6] 26) = wz := ⟨_, rfl⟩
  have hcZ : Chg Non w19 w21 := hwZ ▸ hcK.alloc _
  have hb6 : Blk w21 w20.heap.size 26 #[.int .i64 E6, .slice A6 n6 c6] := hwZ ▸ Blk.new _ _ _
  replace W6 := W6.non ((Chg.refl _ w20).alloc (.cells #[.int .i64 E6, .slice A6 n6 c6] 26))
  rw [hwZ] at W6
  replace hC := hC.non hcZ
  replace hbV := hbV.non hcZ
  replace H1 := H1.non hcZ
  replace H2 := H2.non hcZ
  replace W1 := W1.non hcZ
  replace hb1 := hb1.non hcZ
  replace W2 := W2.non hcZ
  replace hb2 := hb2.non hcZ
  replace W3 := W3.non hcZ
  replace hb3 := hb3.non hcZ
  replace W4 := W4.non hcZ
  replace hb4 := hb4.non hcZ
  replace W5 := W5.non hcZ
  replace hb5 := hb5.non hcZ
  clear v0 v1 vl hcK hcZ
  have v0 := hbV.cell 0
  have v1 := hbV.cell 1
  have vl := hbV.lt
  simp only [List.getElem?_toArray, List.getElem?_cons_zero, List.getElem?_cons_succ] at v0 v1
  obtain ⟨g6, hg6⟩ : ∃ g, w20.heap.size = g := ⟨_, rfl⟩
  rw [hg6] at hb6

  have hK := refHas_any w21 ep A n c L node life H1 (by omega)
  go_wp2_with fail
  refine hK.mono ?_
  clear hK
  rintro e w30 ⟨rfl, hcK⟩
  replace hC := hC.non hcK
  replace hbV := hbV.non hcK
  replace H1 := H1.non hcK
  replace H2 := H2.non hcK
  clear v0 v1 vl
  have v0 := hbV.cell 0
  have v1 := hbV.cell 1
  have vl := hbV.lt
  simp only [List.getElem?_toArray, List.getElem?_cons_zero, List.getElem?_cons_succ] at v0 v1
  replace W1 := W1.non hcK
  replace hb1 := hb1.non hcK
  replace W2 := W2.non hcK
  replace hb2 := hb2.non hcK
  replace W3 := W3.non hcK
  replace hb3 := hb3.non hcK
  replace W4 := W4.non hcK
  replace hb4 := hb4.non hcK
  replace W5 := W5.non hcK
  replace hb5 := hb5.non hcK
  replace W6 := W6.non hcK
  replace hb6 := hb6.non hcK
  clear hcK
  have hxx : X2 = X1 := hX2.out.symm.trans hX1.out
  have hee : E2 = E1 := hE2.out.symm.trans hE1.out
  have hmm : M2 = M1 := hM2.out.symm.trans hM1.out
  have hnn : n2 = n1 := by
    have h3 := mv_len W1.rds
    have h4 := mv_len W2.rds
    rw [hmm] at h4
    omega
  subst hxx hee hmm hnn
  clear hX1 hX2 hE1 hE2 hM1 hM2
  have s1 := W1.small
  have hxx : X4 = X3 := hX4.out.symm.trans hX3.out
  have hee : E4 = E3 := hE4.out.symm.trans hE3.out
  have hmm : M4 = M3 := hM4.out.symm.trans hM3.out
  have hnn : n4 = n3 := by
    have h3 := mv_len W3.rds
    have h4 := mv_len W4.rds
    rw [hmm] at h4
    omega
  subst hxx hee hmm hnn
  clear hX3 hX4 hE3 hE4 hM3 hM4
  have s3 := W3.small
  have hxx : X6 = X5 := hX6.out.symm.trans hX5.out
  have hee : E6 = E5 := hE6.out.symm.trans hE5.out
  have hmm : M6 = M5 := hM6.out.symm.trans hM5.out
  have hnn : n6 = n5 := by
    have h3 := mv_len W5.rds
    have h4 := mv_len W6.rds
    rw [hmm] at h4
    omega
  subst hxx hee hmm hnn
  clear hX5 hX6 hE5 hE6 hM5 hM6
  have s5 := W5.small
  have hx1 : (X2 != X2) = false := bne_self_eq_false X2
  have hx3 : (X4 != X4) = false := bne_self_eq_false X4
  have hx5 : (X6 != X6) = false := bne_self_eq_false X6
  have q10 := hb1.cell 0
  have q11 := hb1.cell 1
  have ql1 := hb1.lt
  simp only [List.getElem?_toArray, List.getElem?_cons_zero, List.getElem?_cons_succ] at q10 q11
  have q20 := hb2.cell 0
  have q21 := hb2.cell 1
  have ql2 := hb2.lt
  simp only [List.getElem?_toArray, List.getElem?_cons_zero, List.getElem?_cons_succ] at q20 q21
  have q30 := hb3.cell 0
  have q31 := hb3.cell 1
  have ql3 := hb3.lt
  simp only [List.getElem?_toArray, List.getElem?_cons_zero, List.getElem?_cons_succ] at q30 q31
  have q40 := hb4.cell 0
  have q41 := hb4.cell 1
  have ql4 := hb4.lt
  simp only [List.getElem?_toArray, List.getElem?_cons_zero, List.getElem?_cons_succ] at q40 q41
  have q50 := hb5.cell 0
  have q51 := hb5.cell 1
  have ql5 := hb5.lt
  simp only [List.getElem?_toArray, List.getElem?_cons_zero, List.getElem?_cons_succ] at q50 q51
  have q60 := hb6.cell 0
  have q61 := hb6.cell 1
  have ql6 := hb6.lt
  simp only [List.getElem?_toArray, List.getElem?_cons_zero, List.getElem?_cons_succ] at q60 q61
  go_wp2_with fail
  refine (num_any _ _).mono ?_
  rintro e w9 ⟨rfl, rfl⟩
  have hK := sameView_same w30 E2 A1 n2 c1 A2 c2 M2 W1.rds W2.rds s1
  go_wp2_with fail
  refine hK.mono ?_
  clear hK
  rintro e w31 ⟨rfl, hcK⟩
  replace hC := hC.non hcK
  replace hbV := hbV.non hcK
  replace H1 := H1.non hcK
  replace H2 := H2.non hcK
  clear v0 v1 vl
  have v0 := hbV.cell 0
  have v1 := hbV.cell 1
  have vl := hbV.lt
  simp only [List.getElem?_toArray, List.getElem?_cons_zero, List.getElem?_cons_succ] at v0 v1
  clear q10 q11 ql1 q20 q21 ql2 q30 q31 ql3 q40 q41 ql4 q50 q51 ql5 q60 q61 ql6
  replace W1 := W1.non hcK
  replace hb1 := hb1.non hcK
  replace W2 := W2.non hcK
  replace hb2 := hb2.non hcK
  replace W3 := W3.non hcK
  replace hb3 := hb3.non hcK
  replace W4 := W4.non hcK
  replace hb4 := hb4.non hcK
  replace W5 := W5.non hcK
  replace hb5 := hb5.non hcK
  replace W6 := W6.non hcK
  replace hb6 := hb6.non hcK
  clear hcK
  have q10 := hb1.cell 0
  have q11 := hb1.cell 1
  have ql1 := hb1.lt
  simp only [List.getElem?_toArray, List.getElem?_cons_zero, List.getElem?_cons_succ] at q10 q11
  have q20 := hb2.cell 0
  have q21 := hb2.cell 1
  have ql2 := hb2.lt
  simp only [List.getElem?_toArray, List.getElem?_cons_zero, List.getElem?_cons_succ] at q20 q21
  have q30 := hb3.cell 0
  have q31 := hb3.cell 1
  have ql3 := hb3.lt
  simp only [List.getElem?_toArray, List.getElem?_cons_zero, List.getElem?_cons_succ] at q30 q31
  have q40 := hb4.cell 0
  have q41 := hb4.cell 1
  have ql4 := hb4.lt
  simp only [List.getElem?_toArray, List.getElem?_cons_zero, List.getElem?_cons_succ] at q40 q41
  have q50 := hb5.cell 0
  have q51 := hb5.cell 1
  have ql5 := hb5.lt
  simp only [List.getElem?_toArray, List.getElem?_cons_zero, List.getElem?_cons_succ] at q50 q51
  have q60 := hb6.cell 0
  have q61 := hb6.cell 1
  have ql6 := hb6.lt
  simp only [List.getElem?_toArray, List.getElem?_cons_zero, List.getElem?_cons_succ] at q60 q61
  go_wp2_with fail
  refine (num_any _ _).mono ?_
  rintro e w9 ⟨rfl, rfl⟩
  have hK := sameView_same w31 E4 A3 n4 c3 A4 c4 M4 W3.rds W4.rds s3
  go_wp2_with fail
  refine hK.mono ?_
  clear hK
  rintro e w32 ⟨rfl, hcK⟩
  replace hC := hC.non hcK
  replace hbV := hbV.non hcK
  replace H1 := H1.non hcK
  replace H2 := H2.non hcK
  clear v0 v1 vl
  have v0 := hbV.cell 0
  have v1 := hbV.cell 1
  have vl := hbV.lt
  simp only [List.getElem?_toArray, List.getElem?_cons_zero, List.getElem?_cons_succ] at v0 v1
  clear q10 q11 ql1 q20 q21 ql2 q30 q31 ql3 q40 q41 ql4 q50 q51 ql5 q60 q61 ql6
  replace W1 := W1.non hcK
  replace hb1 := hb1.non hcK
  replace W2 := W2.non hcK
  replace hb2 := hb2.non hcK
  replace W3 := W3.non hcK
  replace hb3 := hb3.non hcK
  replace W4 := W4.non hcK
  replace hb4 := hb4.non hcK
  replace W5 := W5.non hcK
  replace hb5 := hb5.non hcK
  replace W6 := W6.non hcK
  replace hb6 := hb6.non hcK
  clear hcK
  have q10 := hb1.cell 0
  have q11 := hb1.cell 1
  have ql1 := hb1.lt
  simp only [List.getElem?_toArray, List.getElem?_cons_zero, List.getElem?_cons_succ] at q10 q11
  have q20 := hb2.cell 0
  have q21 := hb2.cell 1
  have ql2 := hb2.lt
  simp only [List.getElem?_toArray, List.getElem?_cons_zero, List.getElem?_cons_succ] at q20 q21
  have q30 := hb3.cell 0
  have q31 := hb3.cell 1
  have ql3 := hb3.lt
  simp only [List.getElem?_toArray, List.getElem?_cons_zero, List.getElem?_cons_succ] at q30 q31
  have q40 := hb4.cell 0
  have q41 := hb4.cell 1
  have ql4 := hb4.lt
  simp only [List.getElem?_toArray, List.getElem?_cons_zero, List.getElem?_cons_succ] at q40 q41
  have q50 := hb5.cell 0
  have q51 := hb5.cell 1
  have ql5 := hb5.lt
  simp only [List.getElem?_toArray, List.getElem?_cons_zero, List.getElem?_cons_succ] at q50 q51
  have q60 := hb6.cell 0
  have q61 := hb6.cell 1
  have ql6 := hb6.lt
  simp only [List.getElem?_toArray, List.getElem?_cons_zero, List.getElem?_cons_succ] at q60 q61
  go_wp2_with fail
  refine (num_any _ _).mono ?_
  rintro e w9 ⟨rfl, rfl⟩
  have hK := sameView_same w32 E6 A5 n6 c5 A6 c6 M6 W5.rds W6.rds s5
  go_wp2_with fail
  refine hK.mono ?_
  clear hK
  rintro e w33 ⟨rfl, hcK⟩
  replace hC := hC.non hcK
  replace hbV := hbV.non hcK
  replace H1 := H1.non hcK
  replace H2 := H2.non hcK
  clear v0 v1 vl
  have v0 := hbV.cell 0
  have v1 := hbV.cell 1
  have vl := hbV.lt
  simp only [List.getElem?_toArray, List.getElem?_cons_zero, List.getElem?_cons_succ] at v0 v1
  clear q10 q11 ql1 q20 q21 ql2 q30 q31 ql3 q40 q41 ql4 q50 q51 ql5 q60 q61 ql6
  replace W1 := W1.non hcK
  replace hb1 := hb1.non hcK
  replace W2 := W2.non hcK
  replace hb2 := hb2.non hcK
  replace W3 := W3.non hcK
  replace hb3 := hb3.non hcK
  replace W4 := W4.non hcK
  replace hb4 := hb4.non hcK
  replace W5 := W5.non hcK
  replace hb5 := hb5.non hcK
  replace W6 := W6.non hcK
  replace hb6 := hb6.non hcK
  clear hcK
  have q10 := hb1.cell 0
  have q11 := hb1.cell 1
  have ql1 := hb1.lt
  simp only [List.getElem?_toArray, List.getElem?_cons_zero, List.getElem?_cons_succ] at q10 q11
  go_wp2_with fail
  clear q10 q11 ql1 v0 v1 vl
  have hS1b : ¬ (Value.slice A1 n2 c1).ownBlock = some g1 := W1.apart hb1 (by decide)
  have hS1c : ¬ (Value.slice A1 n2 c1).ownBlock = some g3 := W1.apart hb3 (by decide)
  have hS1v : ¬ (Value.slice A1 n2 c1).ownBlock = some b0 := W1.apart hbV (by decide)
  have hS3c : ¬ (Value.slice A3 n4 c3).ownBlock = some g3 := W3.apart hb3 (by decide)
  have hS3v : ¬ (Value.slice A3 n4 c3).ownBlock = some b0 := W3.apart hbV (by decide)
  have hW1 := Wipe.of_win W1
  have hW3 := Wipe.of_win W3
  have hap : ∀ ad, A3 = some ad → ¬ (Value.slice A1 n2 c1).ownBlock = some ad.block := fun ad e e2 => O31 ad.block (own_some e) e2
  have s1 := W1.small
  have s3 := W3.small
  clear W1 W2 W3 W4 W5 W6 hb2 hb4 hb5 hb6 O31 O3c O2 O4 O5 O6 hx1 hx3 hx5 s5
  go_loopw [26] (fun i wr => ∃ k : Nat, k ≤ n2 ∧ i = .int .i64 k ∧ Wipe wr A1 n2 ∧ Chg (fun b => (Value.slice A1 n2 c1).ownBlock = some b) w33 wr) (fun i _ => n2 - (intOf i).toNat)
  case atStart => exact ⟨0, Nat.zero_le _, rfl, hW1, Chg.refl _ _⟩
  case round =>
    clear hW1
    obtain ⟨k, hk, rfl, hWr, hCr⟩ := hrel
    have hbr := hb1.chg hCr hS1b
    have q0 := hbr.cell 0
    have q1 := hbr.cell 1
    have ql := hbr.lt
    simp only [List.getElem?_toArray, List.getElem?_cons_zero, List.getElem?_cons_succ] at q0 q1
    by_cases hlt : k < n2
    · obtain ⟨ad, u, rfl, x0, x1⟩ := hWr.at_ hlt
      have xl := World.block_lt_of_cell? wr _ x0
      have hW' := hWr.set (k * 2) (.int .i64 99)
      have hC' := hCr.setCell (p := ad.add (k * 2)) (.inl (by rw [block_add]; rfl)) (.int .i64 99)
      clear hWr hCr hbr
      go_wp2_with fail
      go_roundw
      case rel => exact ⟨k + 1, by omega, by go_num, hW', hC'⟩
      case measure => simp [intOf]; omega
    · have hC4 : Chg Non w wr := hC.trans2 hCr (fun b hb => .inr (O1 b hb))
      have hbV4 := hbV.chg hCr hS1v
      have hb34 := hb3.chg hCr hS1c
      have hW34 := hW3.chg hCr hap
      have h14 : Rds wr 2 A n (mv L) := by
        rcases Nat.eq_zero_or_pos n with h0 | h0
        · exact ⟨by have := H1.1; exact this, fun h => absurd h (by omega)⟩
        · exact H1.chg hCr (fun ad e e2 => by have := hB9 ad e h0; have := O1 _ e2; omega)
      clear hWr hCr hbr hb1 hb3 hbV H1 H2 hC hW3 hS1b hS1c hS1v hap
      go_wp2_with fail
      clear q0 q1 ql
      obtain ⟨wO, rfl⟩ : ∃ wO, wO = wr := ⟨_, rfl⟩
      go_loopw [27] (fun i wz => ∃ k : Nat, k ≤ n4 ∧ i = .int .i64 k ∧ Wipe wz A3 n4 ∧ Chg (fun b => (Value.slice A3 n4 c3).ownBlock = some b) wO wz) (fun i _ => n4 - (intOf i).toNat)
      case atStart => exact ⟨0, Nat.zero_le _, rfl, hW34, Chg.refl _ _⟩
      case round =>
        clear hW34
        obtain ⟨k2, hk2, rfl, hWr, hCr⟩ := hrel
        have hbr := hb34.chg hCr hS3c
        have q0 := hbr.cell 0
        have q1 := hbr.cell 1
        have ql := hbr.lt
        simp only [List.getElem?_toArray, List.getElem?_cons_zero, List.getElem?_cons_succ] at q0 q1
        by_cases hlt2 : k2 < n4
        · obtain ⟨ad, u, rfl, x0, x1⟩ := hWr.at_ hlt2
          have xl := World.block_lt_of_cell? _ _ x0
          have hW' := hWr.set (k2 * 2) (.int .i64 99)
          have hC' := hCr.setCell (p := ad.add (k2 * 2)) (.inl (by rw [block_add]; rfl)) (.int .i64 99)
          clear hWr hCr hbr
          go_wp2_with fail
          go_roundw
          case rel => exact ⟨k2 + 1, by omega, by go_num, hW', hC'⟩
          case measure => simp [intOf]; omega
        · have hC5 : Chg Non w wr := hC4.trans2 hCr (fun b hb => .inr (O3 b hb))
          have hbV5 := hbV4.chg hCr hS3v
          have h15 : Rds wr 2 A n (mv L) := by
            rcases Nat.eq_zero_or_pos n with h0 | h0
            · exact ⟨h14.1, fun h => absurd h (by omega)⟩
            · exact h14.chg hCr (fun ad e e2 => by have := hB9 ad e h0; have := O3 _ e2; omega)
          clear hWr hCr hbr hb34 hbV4 h14 hC4 hS3c hS3v
          go_wp2_with fail
          clear q0 q1 ql
          have hM1 := fun wx (h : Chg Non wr wx) => may_any wx ep A n c L (h15.non h) (by omega)
          have hM2 := fun wx (h : Chg Non wr wx) => refMay_any wx ep A n c L (h15.non h) (by omega)
          have hH := fun wx (h : Chg Non wr wx) => has_any wx ep A n c L node life (h15.non h) (by omega)
          have hF := fun wx (h : Chg Non wr wx) => fenced_any wx ep A n c L epoch node life (h15.non h) (by omega)
          have hFe : fencedB ep L epoch node life = (epoch != ep || !inM L node life) := rfl
          rw [hFe] at hF
          clear hFe
          generalize mayB ep L = bm at hM1 hM2
          generalize inM L node life = bh at hH hF ⊢
          have a0 : ∀ wx, Chg Non wr wx → wx.cell? ⟨b0, 0, none⟩ = some (.int .i64 ep) := fun wx h => h.cell (hbV5.cell 0) id
          have a1 : ∀ wx, Chg Non wr wx → wx.cell? ⟨b0, 1, none⟩ = some (.slice A n c) := fun wx h => h.cell (hbV5.cell 1) id
          have al := hbV5.lt
          clear hbV5 h15
          have hcase : (epoch != ep) = true ∨ (epoch != ep) = false := by cases (epoch != ep) <;> simp
          rcases hcase with hD | hD
          all_goals
            rw [hD] at hF
            simp only [Bool.true_or, Bool.false_or] at hF
            have HM1 := Lib.hid hM1
            have HM2 := Lib.hid hM2
            have HH := Lib.hid hH
            have HF := Lib.hid hF
            clear hM1 hM2 hH hF
          · as_aux_lemma =>
              refine st_region _ Non [1, 3, 9, 18] [] (fun _ _ _ _ => True) (fun _ _ _ _ => True) (fun i _ v => if i < 4 then v = .bool bm else if i = 9 then v = .bool bh else v = .bool (true)) (fun _ => True) (by kernel_rfl) (okB_of_F _ (by kernel_rfl)) (fun _ h => h.elim) trivial (fun _ _ _ => trivial) ?_
              repeat (first | (refine st_pass (by rfl) ?_; simp only [Act.put, List.setIfInBounds_toArray, List.set_cons_succ, List.set_cons_zero]) | (refine st_plain (Non) (wr) rfl rfl (f := ?_) (by rfl) rfl rfl (fun w hC hG => ?_) ?_; rotate_left; (clear hG; first | (go_simp; done) | (go_simp; with_reducible rfl) | (simp [*, go_sem, ↓IntWalk.iteOmega]; done) | (simp [*, go_sem, ↓IntWalk.iteOmega]; with_reducible rfl)); simp only [Act.put, List.setIfInBounds_toArray, List.set_cons_succ, List.set_cons_zero]))
              refine st_major (Non) (wr) rfl rfl (by rfl) rfl (⟨_, rfl⟩) (fun _ _ _ _ _ _ => trivial) (fun _ _ _ _ => trivial) (fun w hC hG hS => settle_of (r2 := ?_) ?_ ?_) ?_
              rotate_left
              (first | (go_simp; done) | (go_simp; rfl))
              · refine settle_enter ((HM1.out _ hC).mono ?_)
                rintro e w6 ⟨rfl, hc6⟩
                exact ⟨_, rfl, rfl, hc6, trivial, trivial⟩
              rintro v hv
              obtain rfl : v = .bool (bm) := hv
              simp only [Act.put, List.setIfInBounds_toArray, List.set_cons_succ, List.set_cons_zero]
              repeat (first | (refine st_pass (by rfl) ?_; simp only [Act.put, List.setIfInBounds_toArray, List.set_cons_succ, List.set_cons_zero]) | (refine st_plain (Non) (wr) rfl rfl (f := ?_) (by rfl) rfl rfl (fun w hC hG => ?_) ?_; rotate_left; (clear hG; first | (go_simp; done) | (go_simp; with_reducible rfl) | (simp [*, go_sem, ↓IntWalk.iteOmega]; done) | (simp [*, go_sem, ↓IntWalk.iteOmega]; with_reducible rfl)); simp only [Act.put, List.setIfInBounds_toArray, List.set_cons_succ, List.set_cons_zero]))
              refine st_major (Non) (wr) rfl rfl (by rfl) rfl (⟨_, rfl⟩) (fun _ _ _ _ _ _ => trivial) (fun _ _ _ _ => trivial) (fun w hC hG hS => settle_of (r2 := ?_) ?_ ?_) ?_
              rotate_left
              (first | (go_simp; done) | (go_simp; rfl))
              · refine settle_enter ((HM2.out _ hC).mono ?_)
                rintro e w6 ⟨rfl, hc6⟩
                exact ⟨_, rfl, rfl, hc6, trivial, trivial⟩
              rintro v hv
              obtain rfl : v = .bool (bm) := hv
              simp only [Act.put, List.setIfInBounds_toArray, List.set_cons_succ, List.set_cons_zero]
              repeat (first | (refine st_pass (by rfl) ?_; simp only [Act.put, List.setIfInBounds_toArray, List.set_cons_succ, List.set_cons_zero]) | (refine st_plain (Non) (wr) rfl rfl (f := ?_) (by rfl) rfl rfl (fun w hC hG => ?_) ?_; rotate_left; (clear hG; first | (go_simp; done) | (go_simp; with_reducible rfl) | (simp [*, go_sem, ↓IntWalk.iteOmega]; done) | (simp [*, go_sem, ↓IntWalk.iteOmega]; with_reducible rfl)); simp only [Act.put, List.setIfInBounds_toArray, List.set_cons_succ, List.set_cons_zero]))
              refine st_major (Non) (wr) rfl rfl (by rfl) rfl (⟨_, rfl⟩) (fun _ _ _ _ _ _ => trivial) (fun _ _ _ _ => trivial) (fun w hC hG hS => settle_of (r2 := ?_) ?_ ?_) ?_
              rotate_left
              (first | (go_simp; done) | (go_simp; rfl))
              · refine settle_enter ((HH.out _ hC).mono ?_)
                rintro e w6 ⟨rfl, hc6⟩
                exact ⟨_, rfl, rfl, hc6, trivial, trivial⟩
              rintro v hv
              obtain rfl : v = .bool (bh) := hv
              simp only [Act.put, List.setIfInBounds_toArray, List.set_cons_succ, List.set_cons_zero]
              repeat (first | (refine st_pass (by rfl) ?_; simp only [Act.put, List.setIfInBounds_toArray, List.set_cons_succ, List.set_cons_zero]) | (refine st_plain (Non) (wr) rfl rfl (f := ?_) (by rfl) rfl rfl (fun w hC hG => ?_) ?_; rotate_left; (clear hG; first | (go_simp; done) | (go_simp; with_reducible rfl) | (simp [*, go_sem, ↓IntWalk.iteOmega]; done) | (simp [*, go_sem, ↓IntWalk.iteOmega]; with_reducible rfl)); simp only [Act.put, List.setIfInBounds_toArray, List.set_cons_succ, List.set_cons_zero]))
              refine st_major (Non) (wr) rfl rfl (by rfl) rfl (⟨_, rfl⟩) (fun _ _ _ _ _ _ => trivial) (fun _ _ _ _ => trivial) (fun w hC hG hS => settle_of (r2 := ?_) ?_ ?_) ?_
              rotate_left
              (first | (go_simp; done) | (go_simp; rfl))
              · refine settle_enter ((HF.out _ hC).mono ?_)
                rintro e w6 ⟨rfl, hc6⟩
                exact ⟨_, rfl, rfl, hc6, trivial, trivial⟩
              rintro v hv
              obtain rfl : v = .bool (true) := hv
              simp only [Act.put, List.setIfInBounds_toArray, List.set_cons_succ, List.set_cons_zero]
              repeat (first | (refine st_pass (by rfl) ?_; simp only [Act.put, List.setIfInBounds_toArray, List.set_cons_succ, List.set_cons_zero]) | (refine st_plain (Non) (wr) rfl rfl (f := ?_) (by rfl) rfl rfl (fun w hC hG => ?_) ?_; rotate_left; (clear hG; first | (go_simp; done) | (go_simp; with_reducible rfl) | (simp [*, go_sem, ↓IntWalk.iteOmega]; done) | (simp [*, go_sem, ↓IntWalk.iteOmega]; with_reducible rfl)); simp only [Act.put, List.setIfInBounds_toArray, List.set_cons_succ, List.set_cons_zero]))
              refine st_end Non wr rfl rfl (fun w6 hC6 _ hG6 => ?_)
              clear hG6 a0 a1
              go_wp2_with fail
              go_ret
              exact ⟨rfl, hC5.non hC6⟩
          · as_aux_lemma =>
              refine st_region _ Non [1, 3, 9, 18] [] (fun _ _ _ _ => True) (fun _ _ _ _ => True) (fun i _ v => if i < 4 then v = .bool bm else if i = 9 then v = .bool bh else v = .bool (!bh)) (fun _ => True) (by kernel_rfl) (okB_of_F _ (by kernel_rfl)) (fun _ h => h.elim) trivial (fun _ _ _ => trivial) ?_
              repeat (first | (refine st_pass (by rfl) ?_; simp only [Act.put, List.setIfInBounds_toArray, List.set_cons_succ, List.set_cons_zero]) | (refine st_plain (Non) (wr) rfl rfl (f := ?_) (by rfl) rfl rfl (fun w hC hG => ?_) ?_; rotate_left; (clear hG; first | (go_simp; done) | (go_simp; with_reducible rfl) | (simp [*, go_sem, ↓IntWalk.iteOmega]; done) | (simp [*, go_sem, ↓IntWalk.iteOmega]; with_reducible rfl)); simp only [Act.put, List.setIfInBounds_toArray, List.set_cons_succ, List.set_cons_zero]))
              refine st_major (Non) (wr) rfl rfl (by rfl) rfl (⟨_, rfl⟩) (fun _ _ _ _ _ _ => trivial) (fun _ _ _ _ => trivial) (fun w hC hG hS => settle_of (r2 := ?_) ?_ ?_) ?_
              rotate_left
              (first | (go_simp; done) | (go_simp; rfl))
              · refine settle_enter ((HM1.out _ hC).mono ?_)
                rintro e w6 ⟨rfl, hc6⟩
                exact ⟨_, rfl, rfl, hc6, trivial, trivial⟩
              rintro v hv
              obtain rfl : v = .bool (bm) := hv
              simp only [Act.put, List.setIfInBounds_toArray, List.set_cons_succ, List.set_cons_zero]
              repeat (first | (refine st_pass (by rfl) ?_; simp only [Act.put, List.setIfInBounds_toArray, List.set_cons_succ, List.set_cons_zero]) | (refine st_plain (Non) (wr) rfl rfl (f := ?_) (by rfl) rfl rfl (fun w hC hG => ?_) ?_; rotate_left; (clear hG; first | (go_simp; done) | (go_simp; with_reducible rfl) | (simp [*, go_sem, ↓IntWalk.iteOmega]; done) | (simp [*, go_sem, ↓IntWalk.iteOmega]; with_reducible rfl)); simp only [Act.put, List.setIfInBounds_toArray, List.set_cons_succ, List.set_cons_zero]))
              refine st_major (Non) (wr) rfl rfl (by rfl) rfl (⟨_, rfl⟩) (fun _ _ _ _ _ _ => trivial) (fun _ _ _ _ => trivial) (fun w hC hG hS => settle_of (r2 := ?_) ?_ ?_) ?_
              rotate_left
              (first | (go_simp; done) | (go_simp; rfl))
              · refine settle_enter ((HM2.out _ hC).mono ?_)
                rintro e w6 ⟨rfl, hc6⟩
                exact ⟨_, rfl, rfl, hc6, trivial, trivial⟩
              rintro v hv
              obtain rfl : v = .bool (bm) := hv
              simp only [Act.put, List.setIfInBounds_toArray, List.set_cons_succ, List.set_cons_zero]
              repeat (first | (refine st_pass (by rfl) ?_; simp only [Act.put, List.setIfInBounds_toArray, List.set_cons_succ, List.set_cons_zero]) | (refine st_plain (Non) (wr) rfl rfl (f := ?_) (by rfl) rfl rfl (fun w hC hG => ?_) ?_; rotate_left; (clear hG; first | (go_simp; done) | (go_simp; with_reducible rfl) | (simp [*, go_sem, ↓IntWalk.iteOmega]; done) | (simp [*, go_sem, ↓IntWalk.iteOmega]; with_reducible rfl)); simp only [Act.put, List.setIfInBounds_toArray, List.set_cons_succ, List.set_cons_zero]))
              refine st_major (Non) (wr) rfl rfl (by rfl) rfl (⟨_, rfl⟩) (fun _ _ _ _ _ _ => trivial) (fun _ _ _ _ => trivial) (fun w hC hG hS => settle_of (r2 := ?_) ?_ ?_) ?_
              rotate_left
              (first | (go_simp; done) | (go_simp; rfl))
              · refine settle_enter ((HH.out _ hC).mono ?_)
                rintro e w6 ⟨rfl, hc6⟩
                exact ⟨_, rfl, rfl, hc6, trivial, trivial⟩
              rintro v hv
              obtain rfl : v = .bool (bh) := hv
              simp only [Act.put, List.setIfInBounds_toArray, List.set_cons_succ, List.set_cons_zero]
              repeat (first | (refine st_pass (by rfl) ?_; simp only [Act.put, List.setIfInBounds_toArray, List.set_cons_succ, List.set_cons_zero]) | (refine st_plain (Non) (wr) rfl rfl (f := ?_) (by rfl) rfl rfl (fun w hC hG => ?_) ?_; rotate_left; (clear hG; first | (go_simp; done) | (go_simp; with_reducible rfl) | (simp [*, go_sem, ↓IntWalk.iteOmega]; done) | (simp [*, go_sem, ↓IntWalk.iteOmega]; with_reducible rfl)); simp only [Act.put, List.setIfInBounds_toArray, List.set_cons_succ, List.set_cons_zero]))
              refine st_major (Non) (wr) rfl rfl (by rfl) rfl (⟨_, rfl⟩) (fun _ _ _ _ _ _ => trivial) (fun _ _ _ _ => trivial) (fun w hC hG hS => settle_of (r2 := ?_) ?_ ?_) ?_
              rotate_left
              (first | (go_simp; done) | (go_simp; rfl))
              · refine settle_enter ((HF.out _ hC).mono ?_)
                rintro e w6 ⟨rfl, hc6⟩
                exact ⟨_, rfl, rfl, hc6, trivial, trivial⟩
              rintro v hv
              obtain rfl : v = .bool (!bh) := hv
              simp only [Act.put, List.setIfInBounds_toArray, List.set_cons_succ, List.set_cons_zero]
              repeat (first | (refine st_pass (by rfl) ?_; simp only [Act.put, List.setIfInBounds_toArray, List.set_cons_succ, List.set_cons_zero]) | (refine st_plain (Non) (wr) rfl rfl (f := ?_) (by rfl) rfl rfl (fun w hC hG => ?_) ?_; rotate_left; (clear hG; first | (go_simp; done) | (go_simp; with_reducible rfl) | (simp [*, go_sem, ↓IntWalk.iteOmega]; done) | (simp [*, go_sem, ↓IntWalk.iteOmega]; with_reducible rfl)); simp only [Act.put, List.setIfInBounds_toArray, List.set_cons_succ, List.set_cons_zero]))
              refine st_end Non wr rfl rfl (fun w6 hC6 _ hG6 => ?_)
              clear hG6 a0 a1
              go_wp2_with fail
              go_ret
              exact ⟨rfl, hC5.non hC6⟩
theorem viewTells_walk (w : World) (S : Array Value) (e0 : Rd Try.prog w 26 (Value.agg S).cells.toList) (B : Option Addr) (m d : Nat) (e1 : Rd Try.prog w 22 (Value.slice B m d).cells.toList) (node : Int) (h2 : i64 node) (life : Int) (h3 : i64 life) (epoch : Int) (h4 : i64 epoch) :
    Calls Try.prog 6 #[.agg S, .slice B m d, .int .i64 node, .int .i64 life, .int .i64 epoch] w fun e w2 => e = .returned (.bool true) ∧ Chg Non w w2 := by
  obtain ⟨v, rfl, hv⟩ := e0.viewG
  obtain ⟨B', m', d', N, h5, h6, h7, h8, _⟩ := e1.ints Try.underlying22 (by kernel_rfl) Try.underlying3
  simp only [Value.cells, List.cons.injEq, and_true, Value.slice.injEq] at h5
  obtain ⟨rfl, rfl, rfl⟩ := h5
  by_cases h : v.n ≤ 200 ∧ m ≤ 100
  · exact viewTells_core w v.ep v.A v.n v.c v.L B m d N node life epoch hv.rds h.1 h8 h.2
  · exact viewTells_much w v.ep v.A v.n v.c B m d node life epoch (by omega)
end Go.Proofs.Ytojlglkefiddnaa
