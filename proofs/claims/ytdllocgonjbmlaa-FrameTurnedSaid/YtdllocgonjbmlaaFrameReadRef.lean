/-
  gleanerref10.ReadFrame.
-/
import Derived.Test.YtdllocgonjbmlaaFrameRead
import Derived.Test.YtdllocgonjbmlaaRefBytes
namespace Go.Proofs.Ytdllocgonjbmlaa
open Go.RowKit
set_option linter.unusedVariables false
set_option linter.unusedSimpArgs false

theorem Rds.side {w w2 : World} {A : Option Addr} {n : Nat} {L : List UInt8} (hr : Rds w 1 A n (bv L)) {g : Nat} {t : TypeId} {cs : Array Value} (hb : Blk w g t cs)
    (hno : ∀ (i : Nat) (q : Nat), cs[i]? ≠ some (.int .u8 q)) (hc : Chg (fun b => b = g) w w2) : Rds w2 1 A n (bv L) := by
  refine ⟨hr.1, fun h0 => ?_⟩
  obtain ⟨ad, e, hx⟩ := hr.2 h0
  refine ⟨ad, e, fun j u hu => hc.cell (hx j u hu) fun hs => ?_⟩
  have h := hx j u hu
  rw [bv_get] at hu
  cases hl : L[j]? with
  | none => simp [hl] at hu
  | some b =>
    simp [hl] at hu
    subst hu
    generalize ad.add j = p at hs h
    unfold Blk at hb
    unfold World.cell? at h
    rw [hs, hb] at h
    simp only at h
    split at h
    · cases h
    · exact hno _ _ h
theorem RCur.sideB {w w2 : World} {g q : Nat} {R : List UInt8} {bad : Bool} {t : TypeId} {cs : Array Value} (h : RCur w g R bad) (hb : Blk w q t cs) (hno : ∀ (i : Nat) (x : Nat), cs[i]? ≠ some (.int .u8 x)) (hg : g ≠ q) (hc : Chg (fun b => b = q) w w2) : RCur w2 g R bad := by
  obtain ⟨A, n, c, B, t, hb2, hr, h1, h2, h3, h4, h5⟩ := h
  exact ⟨A, n, c, B, t, hb2.chg hc hg, hr.side hb hno hc, h1, h2, h3, h4, h5⟩
theorem no_u8 (a b c d e : Int) (A : Option Addr) (n m : Nat) (i x : Nat) : (#[.int .i64 a, .int .i64 b, .int .i64 c, .int .i64 d, .int .i64 e, .slice A n m] : Array Value)[i]? ≠ some (.int .u8 x) := by
  rcases i with _ | _ | _ | _ | _ | _ | i <;> simp
theorem RCur.badCell {w : World} {g : Nat} {R : List UInt8} {bad : Bool} (h : RCur w g R bad) : w.cell? ⟨g, 2, none⟩ = some (.bool bad) := by
  obtain ⟨A, n, c, B, t, hb, _⟩ := h
  exact hb.cell 2
theorem seal_eq {L : List UInt8} {k : Nat} (h : L.length = k + 4) : (sealB (L.take k) == L) = (le4 (crc (L.take k)) == L.drop k) := by
  rw [Bool.eq_iff_iff, beq_iff_eq, beq_iff_eq]
  unfold sealB
  constructor
  · intro e
    have e2 := congrArg (List.drop k) e
    rwa [List.drop_append_of_le_length (by rw [List.length_take]; omega), List.drop_of_length_le (by rw [List.length_take]; omega), List.nil_append] at e2
  · intro e
    rw [e, List.take_append_drop]
theorem pack_is {L : List UInt8} (h : readErr L = 0) : (readFr L).pack = L := by
  obtain ⟨h1, h2, _⟩ := read_form h
  rw [Fr.pack_ok h2]
  exact h1.symm

set_option maxRecDepth 100000 in
set_option maxHeartbeats 2000000 in
theorem refRead_any (w : World) (A : Option Addr) (m c : Nat) (L : List UInt8) (hr : Rds w 1 A m (bv L)) (hc : m ≤ c) (hcm : c ≤ maxLen) (hm : m ≤ 140737488350000) :
    Calls Try.prog 14 #[.slice A m c] w (ReadPost w L) := by
  have hml : m = L.length := hr.lenMap
  by_cases h5 : m < 5
  · have H1 := Lib.hid (read_short (L := L) (by omega))
    clear hml hr
    go_enter Try.func14, Try.ntmps14
    go_wp2_with fail
    exact bodyPost_ret (v := .tuple #[.agg #[.int .i64 0, .int .i64 0, .int .i64 0, .int .i64 0, .int .i64 0, .slice none 0 0], .int .i64 4]) (by simp [results, Try.results14, go_sem]) rfl (ReadPost.zero H1 ((Chg.refl _ _).alloc _))
  · obtain ⟨k, hk⟩ : ∃ k, m = k + 4 := ⟨m - 4, by omega⟩
    subst hk
    have hk1 : 1 ≤ k := by omega
    have Hml := Lib.hid hml
    obtain ⟨ad, x, hA, hx, hcell⟩ := hr.getB (k := 0) (by omega)
    rw [addr_zero] at hcell
    have h255 : x.toNat < 256 := x.toNat_lt
    have hwr2 : ((k + 4 : Nat) : Int) = (k : Int) + 4 := by omega
    by_cases h70 : x.toNat = 70
    · have hh : L.head? = some 70 := by rw [List.head?_eq_getElem?, hx]; exact congrArg some (UInt8.toNat_inj.1 h70)
      have Hh := Lib.hid hh
      have hcell2 : w.cell? ad = some (.int .u8 70) := by rw [hcell, h70]; rfl
      clear hx hcell h255 hh h70 hml
      subst hA
      obtain ⟨w1, hw1⟩ : ∃ w1, w.alloc (.cells #[.int .i64 0, .int .i64 0, .int .i64 0, .int .i64 0, .int .i64 0, .slice none 0 0] 24) = w1 := ⟨_, rfl⟩
      have hC1 : Chg Non w w1 := hw1 ▸ (Chg.refl _ _).alloc _
      have hbZ : Blk w1 w.heap.size 24 #[.int .i64 0, .int .i64 0, .int .i64 0, .int .i64 0, .int .i64 0, .slice none 0 0] := hw1 ▸ Blk.new _ _ _
      have hcell3 := hC1.cell hcell2 id
      have hr1 := hr.non hC1
      go_enter Try.func14, Try.ntmps14
      go_wp2_with fail
      refine (refOpen_any _ (some ad) (k + 4) c L hr1 hm (by omega) hc).mono ?_
      rintro e w2 ⟨rfl, hc2⟩
      rw [show k + 4 - 4 = k by omega, seal_eq (k := k) (by have := Hml.out; omega)]
      have hbZ2 := hbZ.non hc2
      have hC2 := hC1.non hc2
      have hrL2 := hr1.non hc2
      clear hw1 hcell3 hcell2 hC1 hr hr1 hbZ hc2
      cases hsum : (le4 (crc (L.take k)) == L.drop k) with
      | false =>
        have H1 := Lib.hid (read_sum (by have := Hml.out; omega) hk1 Hh.out hsum)
        have z0 := hbZ2.cell 0
        have z1 := hbZ2.cell 1
        have z2 := hbZ2.cell 2
        have z3 := hbZ2.cell 3
        have z4 := hbZ2.cell 4
        have z5 := hbZ2.cell 5
        simp only [List.getElem?_toArray, List.getElem?_cons_zero, List.getElem?_cons_succ] at z0 z1 z2 z3 z4 z5
        have f0 := hbZ2.frozen 0
        have f1 := hbZ2.frozen 1
        have f2 := hbZ2.frozen 2
        have f3 := hbZ2.frozen 3
        have f4 := hbZ2.frozen 4
        have f5 := hbZ2.frozen 5
        go_wp2_with fail
        clear z0 z1 z2 z3 z4 z5 f0 f1 f2 f3 f4 f5
        have hbE := hbZ2.put6 (.int .i64 0) (.int .i64 0) (.int .i64 0) (.int .i64 0) (.int .i64 0) (.slice none 0 0)
        have hE := chg6 w2 w.heap.size (.int .i64 0) (.int .i64 0) (.int .i64 0) (.int .i64 0) (.int .i64 0) (.slice none 0 0)
        have r0 := hbE.cell 0
        have r1 := hbE.cell 1
        have r2 := hbE.cell 2
        have r3 := hbE.cell 3
        have r4 := hbE.cell 4
        have r5 := hbE.cell 5
        simp only [List.getElem?_toArray, List.getElem?_cons_zero, List.getElem?_cons_succ] at r0 r1 r2 r3 r4 r5
        have hCE := hC2.trans2 hE (fun b e => .inr (by have e : b = w.heap.size := e; omega))
        exact bodyPost_ret (v := .tuple #[.agg #[.int .i64 0, .int .i64 0, .int .i64 0, .int .i64 0, .int .i64 0, .slice none 0 0], .int .i64 5]) (by simp [results, Try.results14, go_sem, r0, r1, r2, r3, r4, r5]) rfl (ReadPost.zero H1 hCE)
      | true =>
        have Hs := Lib.hid hsum
        have hr1 : Rds w2 1 (some ad) k (bv (L.take k)) := hrL2.take8 (by omega) rfl
        obtain ⟨pa, pb, pc, pd, pe, pt, ea, eb, ec, ed, ee, et, hp, hlen⟩ := parse_steps ((L.take k).drop 1)
        have hl0 : ((L.take k).drop 1).length ≤ 140737488350000 := by have := Hml.out; simp only [List.length_drop, List.length_take]; omega
        have Hp := Lib.hid hp
        have Hlen : Hid (pe.2.1.length ≤ 140737488351232) := Nat.le_trans hlen (Nat.le_trans hl0 (by omega))
        have Ea := Lib.hid ea
        have Eb := Lib.hid eb
        have Ec := Lib.hid ec
        have Ed := Lib.hid ed
        have Ee := Lib.hid ee
        have Et := Lib.hid et
        obtain ⟨w3, hw3⟩ : ∃ w3, w2.alloc (.cells #[.slice (some ad) k c, .int .i64 1, .bool false] 63) = w3 := ⟨_, rfl⟩
        have hc3 : Chg Non w2 w3 := hw3 ▸ (Chg.refl _ _).alloc _
        have hcur3 : RCur w3 w2.heap.size ((L.take k).drop 1) false := by
          refine ⟨some ad, k, c, L.take k, 1, hw3 ▸ Blk.new _ _ _, hr1.non hc3, by omega, hcm, hk1, fun h0 a e => ?_, rfl⟩
          obtain ⟨a2, u, e2, _, hcl⟩ := hr1.at_ h0
          rw [e] at e2
          cases e2
          have := World.block_lt_of_cell? w2 _ hcl
          rw [block_add] at this
          omega
        obtain ⟨w4, hw4⟩ : ∃ w4, w3.alloc (.cells #[.int .i64 0, .int .i64 0, .int .i64 0, .int .i64 0, .int .i64 0, .slice none 0 0] 24) = w4 := ⟨_, rfl⟩
        have hc4 : Chg Non w3 w4 := hw4 ▸ (Chg.refl _ _).alloc _
        have hbF4 : Blk w4 w3.heap.size 24 #[.int .i64 0, .int .i64 0, .int .i64 0, .int .i64 0, .int .i64 0, .slice none 0 0] := hw4 ▸ Blk.new _ _ _
        have hcur := hcur3.non hc4
        have hbZ4 := (hbZ2.non hc3).non hc4
        have hC4 := (hC2.non hc3).non hc4
        have hrL4 := (hrL2.non hc3).non hc4
        have hgw : w.heap.size < w2.heap.size := by have := hbZ2.lt; omega
        have hfg : w2.heap.size < w3.heap.size := by have := hcur3.lt; omega
        generalize hg : w2.heap.size = g at *
        generalize hfb : w3.heap.size = fb at *
        have hrA : ∀ q, q = g ∨ q = fb → ad.block ≠ q := by
          intro q hq
          obtain ⟨a2, u, e2, _, hcl⟩ := hr1.at_ (k := 0) (by omega)
          cases e2
          have := World.block_lt_of_cell? w2 _ hcl
          rw [block_add] at this
          omega
        clear hp hlen ea eb ec ed ee et hsum hc3 hc4 hcur3 hbZ2 hC2 hrL2 hr1
        go_wp2_with fail
        refine (refCurInt_any g _ _ _ hcur).mono ?_
        rintro e w5 ⟨rfl, hcur5, hc5⟩
        rw [Ea.out] at hcur5 ⊢
        have hbZ5 := hbZ4.chg hc5 (by omega)
        have hbF5 := hbF4.chg hc5 (by omega)
        have hC5 := hC4.trans2 hc5 (fun b e => .inr (by have e : b = g := e; omega))
        have hrL5 := hrL4.chg hc5 (fun a e e2 => by cases e; exact hrA g (.inl rfl) e2)
        clear hc5 hbZ4 hbF4 hC4 hrL4 hcur
        have s0 := hbF5.cell 0
        have s1 := hbF5.frozen 0
        simp only [List.getElem?_toArray, List.getElem?_cons_zero, List.getElem?_cons_succ] at s0
        obtain ⟨w6, hw6⟩ : ∃ w6, w5.setCell ⟨fb, 0, none⟩ (.int .i64 pa.1) = w6 := ⟨_, rfl⟩
        have hS6 : Chg (fun b => b = fb) w5 w6 := hw6 ▸ (Chg.refl _ _).set1 0 _
        have hbF6 : Blk w6 fb 24 #[.int .i64 pa.1, .int .i64 0, .int .i64 0, .int .i64 0, .int .i64 0, .slice none 0 0] := hw6 ▸ hbF5.put 0 (.int .i64 pa.1)
        have hcur := hcur5.sideB hbF5 (no_u8 _ _ _ _ _ _ _ _) (by omega) hS6
        have hbZ6 := hbZ5.chg hS6 (by omega)
        have hC6 := hC5.trans2 hS6 (fun b e => .inr (by have e : b = fb := e; omega))
        have hrL6 := hrL5.chg hS6 (fun a e e2 => by cases e; exact hrA fb (.inr rfl) e2)
        clear hcur5 hbZ5 hbF5 hC5 hrL5 hS6
        go_wp2_with fail
        clear s0 s1 hw6
        refine (refCurInt_any g _ _ _ hcur).mono ?_
        rintro e w7 ⟨rfl, hcur7, hc7⟩
        rw [Eb.out] at hcur7 ⊢
        have hbZ7 := hbZ6.chg hc7 (by omega)
        have hbF7 := hbF6.chg hc7 (by omega)
        have hC7 := hC6.trans2 hc7 (fun b e => .inr (by have e : b = g := e; omega))
        have hrL7 := hrL6.chg hc7 (fun a e e2 => by cases e; exact hrA g (.inl rfl) e2)
        clear hc7 hbZ6 hbF6 hC6 hrL6 hcur
        have s0 := hbF7.cell 1
        have s1 := hbF7.frozen 1
        simp only [List.getElem?_toArray, List.getElem?_cons_zero, List.getElem?_cons_succ] at s0
        obtain ⟨w8, hw8⟩ : ∃ w8, w7.setCell ⟨fb, 1, none⟩ (.int .i64 pb.1) = w8 := ⟨_, rfl⟩
        have hS8 : Chg (fun b => b = fb) w7 w8 := hw8 ▸ (Chg.refl _ _).set1 1 _
        have hbF8 : Blk w8 fb 24 #[.int .i64 pa.1, .int .i64 pb.1, .int .i64 0, .int .i64 0, .int .i64 0, .slice none 0 0] := hw8 ▸ hbF7.put 1 (.int .i64 pb.1)
        have hcur := hcur7.sideB hbF7 (no_u8 _ _ _ _ _ _ _ _) (by omega) hS8
        have hbZ8 := hbZ7.chg hS8 (by omega)
        have hC8 := hC7.trans2 hS8 (fun b e => .inr (by have e : b = fb := e; omega))
        have hrL8 := hrL7.chg hS8 (fun a e e2 => by cases e; exact hrA fb (.inr rfl) e2)
        clear hcur7 hbZ7 hbF7 hC7 hrL7 hS8
        go_wp2_with fail
        clear s0 s1 hw8
        refine (refCurInt_any g _ _ _ hcur).mono ?_
        rintro e w9 ⟨rfl, hcur9, hc9⟩
        rw [Ec.out] at hcur9 ⊢
        have hbZ9 := hbZ8.chg hc9 (by omega)
        have hbF9 := hbF8.chg hc9 (by omega)
        have hC9 := hC8.trans2 hc9 (fun b e => .inr (by have e : b = g := e; omega))
        have hrL9 := hrL8.chg hc9 (fun a e e2 => by cases e; exact hrA g (.inl rfl) e2)
        clear hc9 hbZ8 hbF8 hC8 hrL8 hcur
        have s0 := hbF9.cell 2
        have s1 := hbF9.frozen 2
        simp only [List.getElem?_toArray, List.getElem?_cons_zero, List.getElem?_cons_succ] at s0
        obtain ⟨w10, hw10⟩ : ∃ w10, w9.setCell ⟨fb, 2, none⟩ (.int .i64 pc.1) = w10 := ⟨_, rfl⟩
        have hS10 : Chg (fun b => b = fb) w9 w10 := hw10 ▸ (Chg.refl _ _).set1 2 _
        have hbF10 : Blk w10 fb 24 #[.int .i64 pa.1, .int .i64 pb.1, .int .i64 pc.1, .int .i64 0, .int .i64 0, .slice none 0 0] := hw10 ▸ hbF9.put 2 (.int .i64 pc.1)
        have hcur := hcur9.sideB hbF9 (no_u8 _ _ _ _ _ _ _ _) (by omega) hS10
        have hbZ10 := hbZ9.chg hS10 (by omega)
        have hC10 := hC9.trans2 hS10 (fun b e => .inr (by have e : b = fb := e; omega))
        have hrL10 := hrL9.chg hS10 (fun a e e2 => by cases e; exact hrA fb (.inr rfl) e2)
        clear hcur9 hbZ9 hbF9 hC9 hrL9 hS10
        go_wp2_with fail
        clear s0 s1 hw10
        refine (refCurInt_any g _ _ _ hcur).mono ?_
        rintro e w11 ⟨rfl, hcur11, hc11⟩
        rw [Ed.out] at hcur11 ⊢
        have hbZ11 := hbZ10.chg hc11 (by omega)
        have hbF11 := hbF10.chg hc11 (by omega)
        have hC11 := hC10.trans2 hc11 (fun b e => .inr (by have e : b = g := e; omega))
        have hrL11 := hrL10.chg hc11 (fun a e e2 => by cases e; exact hrA g (.inl rfl) e2)
        clear hc11 hbZ10 hbF10 hC10 hrL10 hcur
        have s0 := hbF11.cell 3
        have s1 := hbF11.frozen 3
        simp only [List.getElem?_toArray, List.getElem?_cons_zero, List.getElem?_cons_succ] at s0
        obtain ⟨w12, hw12⟩ : ∃ w12, w11.setCell ⟨fb, 3, none⟩ (.int .i64 pd.1) = w12 := ⟨_, rfl⟩
        have hS12 : Chg (fun b => b = fb) w11 w12 := hw12 ▸ (Chg.refl _ _).set1 3 _
        have hbF12 : Blk w12 fb 24 #[.int .i64 pa.1, .int .i64 pb.1, .int .i64 pc.1, .int .i64 pd.1, .int .i64 0, .slice none 0 0] := hw12 ▸ hbF11.put 3 (.int .i64 pd.1)
        have hcur := hcur11.sideB hbF11 (no_u8 _ _ _ _ _ _ _ _) (by omega) hS12
        have hbZ12 := hbZ11.chg hS12 (by omega)
        have hC12 := hC11.trans2 hS12 (fun b e => .inr (by have e : b = fb := e; omega))
        have hrL12 := hrL11.chg hS12 (fun a e e2 => by cases e; exact hrA fb (.inr rfl) e2)
        clear hcur11 hbZ11 hbF11 hC11 hrL11 hS12
        go_wp2_with fail
        clear s0 s1 hw12
        refine (refCurInt_any g _ _ _ hcur).mono ?_
        rintro e w13 ⟨rfl, hcur13, hc13⟩
        rw [Ee.out] at hcur13 ⊢
        have hbZ13 := hbZ12.chg hc13 (by omega)
        have hbF13 := hbF12.chg hc13 (by omega)
        have hC13 := hC12.trans2 hc13 (fun b e => .inr (by have e : b = g := e; omega))
        have hrL13 := hrL12.chg hc13 (fun a e e2 => by cases e; exact hrA g (.inl rfl) e2)
        clear hc13 hbZ12 hbF12 hC12 hrL12 hcur
        have s0 := hbF13.cell 4
        have s1 := hbF13.frozen 4
        simp only [List.getElem?_toArray, List.getElem?_cons_zero, List.getElem?_cons_succ] at s0
        obtain ⟨w14, hw14⟩ : ∃ w14, w13.setCell ⟨fb, 4, none⟩ (.int .i64 pe.1) = w14 := ⟨_, rfl⟩
        have hS14 : Chg (fun b => b = fb) w13 w14 := hw14 ▸ (Chg.refl _ _).set1 4 _
        have hbF14 : Blk w14 fb 24 #[.int .i64 pa.1, .int .i64 pb.1, .int .i64 pc.1, .int .i64 pd.1, .int .i64 pe.1, .slice none 0 0] := hw14 ▸ hbF13.put 4 (.int .i64 pe.1)
        have hcur := hcur13.sideB hbF13 (no_u8 _ _ _ _ _ _ _ _) (by omega) hS14
        have hbZ14 := hbZ13.chg hS14 (by omega)
        have hC14 := hC13.trans2 hS14 (fun b e => .inr (by have e : b = fb := e; omega))
        have hrL14 := hrL13.chg hS14 (fun a e e2 => by cases e; exact hrA fb (.inr rfl) e2)
        clear hcur13 hbZ13 hbF13 hC13 hrL13 hS14
        go_wp2_with fail
        clear s0 s1 hw14
        refine (refBytes_any g _ _ _ hcur Hlen.out).mono ?_
        rintro e w15 ⟨vt, rfl, hown, hcur15, hc15⟩
        rw [Et.out] at hcur15 hown
        have hltP := hbF14.lt
        obtain ⟨A9, n9, c9, rfl, hn9, hnc9, hcm9, hr9⟩ := hown.open_
        have hbZ15 := hbZ14.chg hc15 (by omega)
        have hbF15 := hbF14.chg hc15 (by omega)
        have hC15 := hC14.trans2 hc15 (fun b e => .inr (by have e : b = g := e; omega))
        have hrL15 := hrL14.chg hc15 (fun a e e2 => by cases e; exact hrA g (.inl rfl) e2)
        clear hc15 hbZ14 hbF14 hC14 hrL14 hcur
        have s0 := hbF15.cell 5
        have s1 := hbF15.frozen 5
        simp only [List.getElem?_toArray, List.getElem?_cons_zero, List.getElem?_cons_succ] at s0
        obtain ⟨w16, hw16⟩ : ∃ w16, w15.setCell ⟨fb, 5, none⟩ (.slice A9 n9 c9) = w16 := ⟨_, rfl⟩
        have hS16 : Chg (fun b => b = fb) w15 w16 := hw16 ▸ (Chg.refl _ _).set1 5 _
        have hbF16 : Blk w16 fb 24 #[.int .i64 pa.1, .int .i64 pb.1, .int .i64 pc.1, .int .i64 pd.1, .int .i64 pe.1, .slice A9 n9 c9] := hw16 ▸ hbF15.put 5 (.slice A9 n9 c9)
        have hcur := hcur15.sideB hbF15 (no_u8 _ _ _ _ _ _ _ _) (by omega) hS16
        have hbZ16 := hbZ15.chg hS16 (by omega)
        have hC16 := hC15.trans2 hS16 (fun b e => .inr (by have e : b = fb := e; omega))
        have hrL16 := hrL15.chg hS16 (fun a e e2 => by cases e; exact hrA fb (.inr rfl) e2)
        have hownN := hown.chg hS16 (fun b hb e => by have := (World.ownsRow.lt hown b hb).1; have e : b = fb := e; omega)
        have y0 := hbF16.cell 0
        have y1 := hbF16.cell 1
        have y2 := hbF16.cell 2
        have y3 := hbF16.cell 3
        have y4 := hbF16.cell 4
        have y5 := hbF16.cell 5
        simp only [List.getElem?_toArray, List.getElem?_cons_zero, List.getElem?_cons_succ] at y0 y1 y2 y3 y4 y5
        clear hcur15 hbZ15 hbF15 hC15 hrL15 hS16
        go_wp2_with fail
        clear s0 s1 hw16
        clear y0 y1 y2 y3 y4 y5
        refine (refPack_any _ ⟨pa.1, pb.1, pc.1, pd.1, pe.1, pt.1⟩ A9 n9 c9 hownN.rdsN hnc9 hcm9).mono ?_
        rintro e w17 ⟨vp, rfl, hpk, hc17⟩
        obtain ⟨Ap, np, cp, rfl, hnp, _, _, hrp⟩ := hpk.open_
        have hbZ17 := hbZ16.non hc17
        have hC17 := hC16.non hc17
        have hown17 := hownN.non hc17
        have hrL17 := hrL16.non hc17
        have hcur17 := hcur.non hc17
        have hbF17 := hbF16.non hc17
        have hbc := hcur17.badCell
        clear hc17 hbZ16 hC16 hownN hrL16 hcur hbF16 hpk
        cases hbad : pt.2.2 with
        | true =>
          rw [hbad] at hbc
          have H1 := Lib.hid (read_bad (k := k) (by have := Hml.out; omega) hk1 Hh.out Hs.out Hp.out (by rw [hbad]; rfl))
          have z0 := hbZ17.cell 0
          have z1 := hbZ17.cell 1
          have z2 := hbZ17.cell 2
          have z3 := hbZ17.cell 3
          have z4 := hbZ17.cell 4
          have z5 := hbZ17.cell 5
          simp only [List.getElem?_toArray, List.getElem?_cons_zero, List.getElem?_cons_succ] at z0 z1 z2 z3 z4 z5
          have f0 := hbZ17.frozen 0
          have f1 := hbZ17.frozen 1
          have f2 := hbZ17.frozen 2
          have f3 := hbZ17.frozen 3
          have f4 := hbZ17.frozen 4
          have f5 := hbZ17.frozen 5
          go_wp2_with fail
          clear z0 z1 z2 z3 z4 z5 f0 f1 f2 f3 f4 f5
          have hbE := hbZ17.put6 (.int .i64 0) (.int .i64 0) (.int .i64 0) (.int .i64 0) (.int .i64 0) (.slice none 0 0)
          have hE := chg6 w17 w.heap.size (.int .i64 0) (.int .i64 0) (.int .i64 0) (.int .i64 0) (.int .i64 0) (.slice none 0 0)
          have r0 := hbE.cell 0
          have r1 := hbE.cell 1
          have r2 := hbE.cell 2
          have r3 := hbE.cell 3
          have r4 := hbE.cell 4
          have r5 := hbE.cell 5
          simp only [List.getElem?_toArray, List.getElem?_cons_zero, List.getElem?_cons_succ] at r0 r1 r2 r3 r4 r5
          have hCE := hC17.trans2 hE (fun b e => .inr (by have e : b = w.heap.size := e; omega))
          exact bodyPost_ret (v := .tuple #[.agg #[.int .i64 0, .int .i64 0, .int .i64 0, .int .i64 0, .int .i64 0, .slice none 0 0], .int .i64 4]) (by simp [results, Try.results14, go_sem, r0, r1, r2, r3, r4, r5]) rfl (ReadPost.zero H1 hCE)
        | false =>
          rw [hbad] at hbc
          go_wp2_with fail
          refine (refLeft_any g _ _ _ hcur17).mono ?_
          rintro e w18 ⟨rfl, kk, hw18⟩
          have hc18 : Chg Non w17 w18 := hw18 ▸ (Chg.refl _ _).drewN kk
          have hbZ18 := hbZ17.non hc18
          have hC18 := hC17.non hc18
          have hown18 := hown17.non hc18
          have hrL18 := hrL17.non hc18
          have hbF18 := hbF17.non hc18
          have hrp18 := hrp.non hc18
          clear hw18 hc18 hbZ17 hC17 hown17 hrL17 hcur17 hbF17 hrp hbc
          by_cases hq : pt.2.1.length = 0
          · have hie : pt.2.1.isEmpty = true := List.isEmpty_iff.2 (List.length_eq_zero_iff.1 hq)
            rw [hq]
            by_cases he : Fr.err ⟨pa.1, pb.1, pc.1, pd.1, pe.1, pt.1⟩ = 0
            · obtain ⟨h1, h2⟩ := Fr.err0.1 he
              have H1 := Lib.hid (read_ok (k := k) (by have := Hml.out; omega) hk1 Hh.out Hs.out Hp.out (by rw [hbad, hie, h1, decide_eq_true h2]; rfl))
              have hpL := pack_is H1.out.1
              rw [H1.out.2] at hpL
              rw [hpL] at hrp18
              have q1 := run_string_rds Try.underlying22 Try.underlying5 Try.underlying9 hrp18 cp
              have q2 := run_string_rds Try.underlying22 Try.underlying5 Try.underlying9 hrL18 c
              rw [he]
              clear h1 h2 hpL he hq hie hbad
              have y0 := hbF18.cell 0
              have y1 := hbF18.cell 1
              have y2 := hbF18.cell 2
              have y3 := hbF18.cell 3
              have y4 := hbF18.cell 4
              have y5 := hbF18.cell 5
              simp only [List.getElem?_toArray, List.getElem?_cons_zero, List.getElem?_cons_succ] at y0 y1 y2 y3 y4 y5
              have z0 := hbZ18.cell 0
              have z1 := hbZ18.cell 1
              have z2 := hbZ18.cell 2
              have z3 := hbZ18.cell 3
              have z4 := hbZ18.cell 4
              have z5 := hbZ18.cell 5
              simp only [List.getElem?_toArray, List.getElem?_cons_zero, List.getElem?_cons_succ] at z0 z1 z2 z3 z4 z5
              have f0 := hbZ18.frozen 0
              have f1 := hbZ18.frozen 1
              have f2 := hbZ18.frozen 2
              have f3 := hbZ18.frozen 3
              have f4 := hbZ18.frozen 4
              have f5 := hbZ18.frozen 5
              go_wp2_with fail
              clear z0 z1 z2 z3 z4 z5 f0 f1 f2 f3 f4 f5 y0 y1 y2 y3 y4 y5
              have hbE := hbZ18.put6 (.int .i64 pa.1) (.int .i64 pb.1) (.int .i64 pc.1) (.int .i64 pd.1) (.int .i64 pe.1) (.slice A9 n9 c9)
              have hE := chg6 w18 w.heap.size (.int .i64 pa.1) (.int .i64 pb.1) (.int .i64 pc.1) (.int .i64 pd.1) (.int .i64 pe.1) (.slice A9 n9 c9)
              have r0 := hbE.cell 0
              have r1 := hbE.cell 1
              have r2 := hbE.cell 2
              have r3 := hbE.cell 3
              have r4 := hbE.cell 4
              have r5 := hbE.cell 5
              simp only [List.getElem?_toArray, List.getElem?_cons_zero, List.getElem?_cons_succ] at r0 r1 r2 r3 r4 r5
              have hCE := hC18.trans2 hE (fun b e => .inr (by have e : b = w.heap.size := e; omega))
              have hownE := hown18.chg hE (fun b hb e => by have := (World.ownsRow.lt hown18 b hb).1; have e : b = w.heap.size := e; omega)
              exact bodyPost_ret (v := .tuple #[.agg #[.int .i64 pa.1, .int .i64 pb.1, .int .i64 pc.1, .int .i64 pd.1, .int .i64 pe.1, .slice A9 n9 c9], .int .i64 0]) (by simp [results, Try.results14, go_sem, r0, r1, r2, r3, r4, r5]) rfl ⟨A9, n9, c9, by rw [H1.out.1, H1.out.2], by rw [H1.out.2]; exact own_mono hownE (by omega), hCE⟩
            · have H1 := Lib.hid (read_bad (k := k) (by have := Hml.out; omega) hk1 Hh.out Hs.out Hp.out (by
                rw [hbad, hie]
                by_cases h1 : Fr.fine ⟨pa.1, pb.1, pc.1, pd.1, pe.1, pt.1⟩ = true
                · rw [h1, decide_eq_false (fun h2 => he (Fr.err0.2 ⟨h1, h2⟩))]; rfl
                · rw [Bool.eq_false_iff.2 h1]; rfl))
              have hne : (Fr.err ⟨pa.1, pb.1, pc.1, pd.1, pe.1, pt.1⟩ != 0) = true := by rw [bne_iff_ne]; exact he
              clear he hq hie hbad
              have z0 := hbZ18.cell 0
              have z1 := hbZ18.cell 1
              have z2 := hbZ18.cell 2
              have z3 := hbZ18.cell 3
              have z4 := hbZ18.cell 4
              have z5 := hbZ18.cell 5
              simp only [List.getElem?_toArray, List.getElem?_cons_zero, List.getElem?_cons_succ] at z0 z1 z2 z3 z4 z5
              have f0 := hbZ18.frozen 0
              have f1 := hbZ18.frozen 1
              have f2 := hbZ18.frozen 2
              have f3 := hbZ18.frozen 3
              have f4 := hbZ18.frozen 4
              have f5 := hbZ18.frozen 5
              go_wp2_with fail
              clear z0 z1 z2 z3 z4 z5 f0 f1 f2 f3 f4 f5
              have hbE := hbZ18.put6 (.int .i64 0) (.int .i64 0) (.int .i64 0) (.int .i64 0) (.int .i64 0) (.slice none 0 0)
              have hE := chg6 w18 w.heap.size (.int .i64 0) (.int .i64 0) (.int .i64 0) (.int .i64 0) (.int .i64 0) (.slice none 0 0)
              have r0 := hbE.cell 0
              have r1 := hbE.cell 1
              have r2 := hbE.cell 2
              have r3 := hbE.cell 3
              have r4 := hbE.cell 4
              have r5 := hbE.cell 5
              simp only [List.getElem?_toArray, List.getElem?_cons_zero, List.getElem?_cons_succ] at r0 r1 r2 r3 r4 r5
              have hCE := hC18.trans2 hE (fun b e => .inr (by have e : b = w.heap.size := e; omega))
              exact bodyPost_ret (v := .tuple #[.agg #[.int .i64 0, .int .i64 0, .int .i64 0, .int .i64 0, .int .i64 0, .slice none 0 0], .int .i64 4]) (by simp [results, Try.results14, go_sem, r0, r1, r2, r3, r4, r5]) rfl (ReadPost.zero H1 hCE)
          · have H1 := Lib.hid (read_bad (k := k) (by have := Hml.out; omega) hk1 Hh.out Hs.out Hp.out (by
              rw [hbad, show pt.2.1.isEmpty = false from Bool.eq_false_iff.2 (fun h => hq (by rw [List.isEmpty_iff.1 h]; rfl))]; rfl))
            have hne : ((pt.2.1.length : Int) != 0) = true := by rw [bne_iff_ne]; omega
            clear hq hbad
            have z0 := hbZ18.cell 0
            have z1 := hbZ18.cell 1
            have z2 := hbZ18.cell 2
            have z3 := hbZ18.cell 3
            have z4 := hbZ18.cell 4
            have z5 := hbZ18.cell 5
            simp only [List.getElem?_toArray, List.getElem?_cons_zero, List.getElem?_cons_succ] at z0 z1 z2 z3 z4 z5
            have f0 := hbZ18.frozen 0
            have f1 := hbZ18.frozen 1
            have f2 := hbZ18.frozen 2
            have f3 := hbZ18.frozen 3
            have f4 := hbZ18.frozen 4
            have f5 := hbZ18.frozen 5
            go_wp2_with fail
            clear z0 z1 z2 z3 z4 z5 f0 f1 f2 f3 f4 f5
            have hbE := hbZ18.put6 (.int .i64 0) (.int .i64 0) (.int .i64 0) (.int .i64 0) (.int .i64 0) (.slice none 0 0)
            have hE := chg6 w18 w.heap.size (.int .i64 0) (.int .i64 0) (.int .i64 0) (.int .i64 0) (.int .i64 0) (.slice none 0 0)
            have r0 := hbE.cell 0
            have r1 := hbE.cell 1
            have r2 := hbE.cell 2
            have r3 := hbE.cell 3
            have r4 := hbE.cell 4
            have r5 := hbE.cell 5
            simp only [List.getElem?_toArray, List.getElem?_cons_zero, List.getElem?_cons_succ] at r0 r1 r2 r3 r4 r5
            have hCE := hC18.trans2 hE (fun b e => .inr (by have e : b = w.heap.size := e; omega))
            exact bodyPost_ret (v := .tuple #[.agg #[.int .i64 0, .int .i64 0, .int .i64 0, .int .i64 0, .int .i64 0, .slice none 0 0], .int .i64 4]) (by simp [results, Try.results14, go_sem, r0, r1, r2, r3, r4, r5]) rfl (ReadPost.zero H1 hCE)
    · have hh : L.head? ≠ some 70 := by
        rw [List.head?_eq_getElem?, hx]
        intro e
        cases e
        exact h70 rfl
      have H1 := Lib.hid (read_mark hh)
      have hne : ((x.toNat : Int) != 70) = true := by rw [bne_iff_ne]; omega
      subst hA
      have hC1 : Chg Non w (w.alloc (.cells #[.int .i64 0, .int .i64 0, .int .i64 0, .int .i64 0, .int .i64 0, .slice none 0 0] 24)) := (Chg.refl _ _).alloc _
      have hcell3 := hC1.cell hcell id
      clear hh hx hr hml h70
      go_enter Try.func14, Try.ntmps14
      go_wp2_with fail
      exact bodyPost_ret (v := .tuple #[.agg #[.int .i64 0, .int .i64 0, .int .i64 0, .int .i64 0, .int .i64 0, .slice none 0 0], .int .i64 4]) (by simp [results, Try.results14, go_sem]) rfl (ReadPost.zero H1 ((Chg.refl _ _).alloc _))
end Go.Proofs.Ytdllocgonjbmlaa
