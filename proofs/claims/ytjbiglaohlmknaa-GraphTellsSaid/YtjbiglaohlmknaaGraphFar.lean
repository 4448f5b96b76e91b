/-
  graph.far.
-/
import Derived.Test.YtjbiglaohlmknaaGraphIn
import Derived.Test.YtjbiglaohlmknaaGraphPaths
import Derived.Test.YtjbiglaohlmknaaWin
import Derived.Deep.OwnRows
import Derived.Laws.OwnMore
namespace Go.Proofs.Ytjbiglaohlmknaa
open Go.RowKit
set_option linter.unusedVariables false
set_option linter.unusedSimpArgs false

theorem least_ex (p : Nat → Prop) : ∀ n, p n → ∃ m, p m ∧ ∀ k, p k → m ≤ k := by
  intro n
  induction n using Nat.strongRecOn with
  | _ n ih =>
    intro hn
    by_cases h : ∃ k, k < n ∧ p k
    · obtain ⟨k, h1, h2⟩ := h
      exact ih k h1 h2
    · exact ⟨n, hn, fun k hk => by
        rcases Nat.lt_or_ge k n with h1 | h1
        · exact (h ⟨k, h1, hk⟩).elim
        · exact h1⟩
open Classical in
/-- The least number of which p holds. -/
noncomputable def leastN (p : Nat → Prop) : Nat := if h : ∃ m, p m ∧ ∀ k, p k → m ≤ k then Classical.choose h else 0
theorem leastN_spec {p : Nat → Prop} (h : ∃ n, p n) : p (leastN p) := by
  obtain ⟨n, hn⟩ := h
  have h := least_ex p n hn
  unfold leastN
  rw [dif_pos h]
  exact (Classical.choose_spec h).1
theorem leastN_le {p : Nat → Prop} {n : Nat} (hn : p n) : leastN p ≤ n := by
  have h := least_ex p n hn
  unfold leastN
  rw [dif_pos h]
  exact (Classical.choose_spec h).2 n hn

/-- A row of N numbers, told by a function. -/
def dA (N : Nat) (D : Int → Int) : Array Value := ((List.range N).map fun i => Value.int .i64 (D (i : Nat))).toArray
theorem dA_get {N : Nat} {D : Int → Int} {i : Nat} (h : i < N) : (dA N D)[i]? = some (.int .i64 (D i)) := by
  unfold dA
  simp [h]
theorem dA_set {N : Nat} {D : Int → Int} {i : Nat} {v : Int} : (dA N D).setIfInBounds i (.int .i64 v) = dA N (updF D i v) := by
  unfold dA
  rw [List.setIfInBounds_toArray]
  congr 1
  apply List.ext_getElem?
  intro j
  rw [List.getElem?_set]
  simp only [List.getElem?_map, List.getElem?_range, List.length_map, List.length_range]
  by_cases h : i = j
  · subst h
    rw [if_pos rfl]
    by_cases hj : i < N
    · simp only [List.getElem?_range hj, Option.map_some, updF_same, hj, if_true]
    · simp [hj]
  · rw [if_neg h]
    by_cases hj : j < N
    · simp only [List.getElem?_range hj, Option.map_some]
      rw [updF_other (by omega)]
    · simp [hj]
theorem dA_congr {N : Nat} {D E : Int → Int} (h : ∀ i : Nat, i < N → D i = E i) : dA N D = dA N E := by
  unfold dA
  congr 1
  apply List.map_congr_left
  intro i hi
  rw [h i (List.mem_range.1 hi)]
def fillF (k : Nat) : Int → Int := fun i => if i < k then -1 else 0
theorem fill_0 (N : Nat) : (madeCells #[.int .i64 0] N : Array Value) = dA N (fillF 0) := by
  unfold dA
  apply Array.toList_inj.1
  rw [toList_madeCells_one]
  show List.replicate N (Value.int .i64 0) = (List.range N).map _
  apply List.ext_getElem?
  intro j
  by_cases hj : j < N
  · rw [List.getElem?_map, List.getElem?_range hj, List.getElem?_replicate, if_pos hj]
    show some (Value.int .i64 0) = some (Value.int .i64 (fillF 0 j))
    unfold fillF
    rw [if_neg (by omega)]
  · rw [List.getElem?_map, List.getElem?_replicate, if_neg hj, List.getElem?_eq_none (by simp; omega)]
    rfl
theorem fill_next (N k : Nat) : dA N (updF (fillF k) k (-1)) = dA N (fillF (k + 1)) := dA_congr fun i hi => by
  unfold updF fillF
  by_cases h : (i : Int) = k
  · rw [if_pos h, if_pos (by omega)]
  · rw [if_neg h]
    by_cases h2 : i < k
    · rw [if_pos (by omega), if_pos (by omega)]
    · rw [if_neg (by omega), if_neg (by omega)]
theorem fill_all (N : Nat) : dA N (fillF N) = dA N (fun _ => -1) := dA_congr fun i hi => by
  unfold fillF
  rw [if_pos (by omega)]

/-- What lies where at the head of far's loop: n rounds are left at most. -/
def RelF (w : World) (N : Nat) (a : Int) (gone : List Int) (gd : Nat) (n : Nat) (v : Value) (wr : World) : Prop :=
  ∃ (D : Int → Int) (T : List Int) (k m : Nat), n + k = N ∧ k + m = T.length ∧ T.length ≤ N ∧ Win rkN wr v m (iv (T.drop k)) ∧ Blk wr gd 3 (dA N D) ∧ (∀ b, v.ownBlock = some b → w.heap.size ≤ b ∧ b ≠ gd) ∧ Chg Non w wr ∧
    Hid ((∃ x, Inv N gone a D T k x [] ∧ 0 < m) ∨ (Fin N gone a D ∧ m = 0))
def FarPost (w : World) (N : Nat) (a : Int) (gone : List Int) (e : Ending) (w2 : World) : Prop :=
  ∃ D gd, e = .returned (.slice (some ⟨gd, 0, none⟩) N N) ∧ Blk w2 gd 3 (dA N D) ∧ Fin N gone a D ∧ w.heap.size ≤ gd ∧ Chg Non w w2

set_option maxRecDepth 100000 in
set_option maxHeartbeats 4000000 in
theorem far_any (w : World) (N aN : Nat) (A : Option Addr) (n c : Nat) (gone : List Int) (hr : Rds w 1 A n (iv gone)) (hn : n ≤ 9223372036854775807) (hN : N ≤ 4096) (haN : aN < N) :
    Calls Try.prog 17 #[.int .i64 (N : Int), .int .i64 (aN : Int), .slice A n c] w (FarPost w N aN gone) := by
  have hmk := fun w => run_make_row' (P := Try.prog) 22 3 (.int .i64 0) 8 Try.underlying22 (by kernel_rfl) rfl .i64 .i64 N (by omega) (by omega) w
  have Hr := Lib.hid hr
  clear hr
  go_enter Try.func17, Try.ntmps17
  go_wp2_with fail
  rw [fill_0]
  have hb0 := Blk.new w 3 (dA N (fillF 0))
  have hC0 : Chg Non w (w.alloc (.cells (dA N (fillF 0)) 3)) := (Chg.refl _ _).alloc _
  have hgd : w.heap.size ≤ w.heap.size := Nat.le_refl _
  obtain ⟨gd, hgde⟩ : ∃ gd, w.heap.size = gd := ⟨_, rfl⟩
  rw [hgde] at hb0
  rw [hgde]
  have hgw : w.heap.size ≤ gd := by omega
  clear hgd hgde hmk
  go_loopw [17] (fun i wr => ∃ k : Nat, k ≤ N ∧ i = .int .i64 k ∧ Blk wr gd 3 (dA N (fillF k)) ∧ Chg Non w wr) (fun i _ => N - (intOf i).toNat)
  case atStart => exact ⟨0, Nat.zero_le _, rfl, hb0, hC0⟩
  case round =>
    clear hb0 hC0
    obtain ⟨k, hk, rfl, hb, hC⟩ := hrel
    by_cases hlt : k < N
    · have q : wr.cell? ⟨gd, k, none⟩ = _ := hb.cell k
      rw [dA_get hlt] at q
      have f := hb.frozen k
      have hb2 := hb.put k (.int .i64 (-1))
      rw [dA_set, fill_next] at hb2
      have hC2 := hC.setCell (p := ⟨gd, k, none⟩) (.inr hgw) (.int .i64 (-1))
      clear hb
      go_wp2_with fail
      go_roundw
      case rel => exact ⟨k + 1, by omega, by go_num, hb2, hC2⟩
      case measure => simp [intOf]; omega
    · obtain rfl : k = N := by omega
      have q : wr.cell? ⟨gd, aN, none⟩ = _ := hb.cell aN
      rw [dA_get haN] at q
      have f := hb.frozen aN
      have hb2 := hb.put aN (.int .i64 0)
      rw [fill_all, dA_set] at hb2
      have hC2 := hC.setCell (p := ⟨gd, aN, none⟩) (.inr hgw) (.int .i64 0)
      have hgl := hb.lt
      clear hb hC hk hlt
      obtain ⟨W0, hW0⟩ : ∃ W0, wr.setCell ⟨gd, aN, none⟩ (.int .i64 0) = W0 := ⟨_, rfl⟩
      have hgl2 : gd < W0.heap.size := by rw [hW0] at hb2; exact hb2.lt
      rw [hW0] at hb2 hC2
      go_wp2_with fail
      have hC3 : Chg Non w (W0.alloc (.cells #[.int .i64 (aN : Int)] 3)) := hC2.alloc _
      have hb3 : Blk (W0.alloc (.cells #[.int .i64 (aN : Int)] 3)) gd 3 (dA k (updF (fun _ => -1) aN 0)) := hb2.alloc _
      have hwin : Win rkN (W0.alloc (.cells #[.int .i64 (aN : Int)] 3)) (.slice (some ⟨W0.heap.size, 0, none⟩) 1 1) 1 (iv [(aN : Int)]) :=
        ⟨rfl, .inr ⟨W0.heap.size, 0, 1, #[.int .i64 (aN : Int)], rfl, Blk.new _ _ _, Nat.le_refl _, by decide, by show 0 + 1 * 1 ≤ 1; omega, fun j u hu => by rw [Nat.zero_add]; show ([Value.int .i64 (aN : Int)].toArray)[j]? = _; rw [List.getElem?_toArray]; exact hu⟩⟩
      have Hs : Hid ((∃ x, Inv k gone aN (updF (fun _ => -1) aN 0) [(aN : Int)] 0 x [] ∧ 0 < 1) ∨ (Fin k gone aN (updF (fun _ => -1) aN 0) ∧ 1 = 0)) := .inl ⟨_, Inv.start (by omega) (by omega), by omega⟩
      have hs0 := hC2.size
      clear hb2 hC2 hW0
      go_loopw [9] (fun v wr => ∃ n, RelF w k aN gone gd n v wr) (fun v wr => leastN (fun n => RelF w k aN gone gd n v wr))
      case atStart => exact ⟨k, _, [(aN : Int)], 0, 1, rfl, rfl, by simp; omega, hwin, hb3, fun b hb => by have hb : some W0.heap.size = some b := hb; cases hb; omega, hC3, Hs⟩
      case round =>
        clear hwin hb3 hC3 Hs
        have hsp := leastN_spec hrel
        obtain ⟨n0, hn0⟩ : ∃ n0, leastN (fun n => RelF w k aN gone gd n u9 wr) = n0 := ⟨_, rfl⟩
        rw [hn0] at hsp
        clear hrel
        obtain ⟨D, T, kk, m, hnk, hkm, hTl, hwin, hb, hown, hC, Hs⟩ := hsp
        obtain ⟨A2, c2, rfl, hmc, hcm, hrw⟩ := hwin.open_
        have hd : ((∃ x, Inv k gone aN D T kk x [] ∧ 0 < m) ∨ (Fin k gone aN D ∧ m = 0)) := Hs.out
        clear Hs
        rcases hd with ⟨x, hinv, hm⟩ | ⟨hfin, hm⟩
        · have Hinv := Lib.hid hinv
          obtain ⟨ad, y, rfl, hy, hcell⟩ := hrw.getI hm
          obtain rfl : x = y := by
            rw [List.getElem?_drop, Nat.add_zero, hinv.cur] at hy
            exact Option.some.inj hy
          have hxv := hinv.val x (List.mem_of_getElem? hinv.cur)
          obtain ⟨xn, rfl⟩ : ∃ xn : Nat, x = xn := ⟨x.toNat, by omega⟩
          have qs := fun w => run_slice_lo (P := Try.prog) Try.underlying22 1 (by kernel_rfl) (by kernel_rfl) (kl := .i64) (i := 1) (k := 1) (n := m) (by omega) (by omega) (some ad) c2 w
          have hwin1 := hwin.lo (k := 1) (by omega)
          rw [show ad.add 0 = ad from by cases ad; rfl] at hcell
          have hadl : ad.block < wr.heap.size := hwin.lt rfl
          clear hinv hy hwin hrw
          go_wp2_with fail
          refine (lines_any k xn wr).mono ?_
          rintro e w6 ⟨vL, nL, rfl, hL, hc6⟩
          obtain ⟨AL, cL, rfl, hnL, hcL, hrL, hobL⟩ := hL.open_
          have hLl := Lib.hid (show nL = (linesG k xn).length from hrL.lenMap (f := fun n : Int => .int .i64 n))
          have s6 := hc6.size
          have hnLi : nL ≤ 9223372036854775807 := by unfold maxLen at hcL; omega
          have hgl6 : gd < wr.heap.size := hb.lt
          have hcb : ∀ b, (Value.slice (cutA (some ad) c2 1 1) (m - 1) (c2 - 1)).ownBlock = some b → w.heap.size ≤ b ∧ b ≠ gd ∧ (b < wr.heap.size ∨ w6.heap.size ≤ b) := by
            intro b hb
            have e : b = ad.block := by
              unfold cutA at hb
              split at hb
              · exact (Option.some.inj hb).symm
              · exact (Option.some.inj hb).symm
            have := hown ad.block rfl
            omega
          obtain ⟨s5, hs5⟩ : ∃ s5, wr.heap.size = s5 := ⟨_, rfl⟩
          have hC6 := hC.non hc6
          have hb6 := hb.non hc6
          have hwin6 := hwin1.non hc6
          clear hc6 hC hb hwin1 hcell qs
          have HrL : Hid (∀ wx, Chg (fun b => w.heap.size ≤ b ∧ b < s5) w6 wx → Rds wx 1 AL nL (iv (linesG k xn))) := fun wx hx => hrL.chg hx fun ad e hb => by
            have := (hL.lt (hobL ad e)).1
            omega
          clear hL hrL hobL
          go_wp2_with fail
          rw [hs5] at hcb hgl6 s6
          clear hs5
          go_loopw [9, 41] (fun v i wx => ∃ (j : Nat) (D2 : Int → Int) (T2 : List Int) (m2 : Nat), j ≤ nL ∧ i = .int .i64 j ∧ kk + 1 + m2 = T2.length ∧ Win rkN wx v m2 (iv (T2.drop (kk + 1))) ∧ Blk wx gd 3 (dA k D2) ∧ (∀ b, v.ownBlock = some b → w.heap.size ≤ b ∧ b ≠ gd ∧ (b < s5 ∨ w6.heap.size ≤ b)) ∧ Chg (fun b => w.heap.size ≤ b ∧ b < s5) w6 wx ∧ Hid (Inv k gone aN D2 T2 kk xn ((linesG k xn).take j))) (fun _ i _ => nL - (intOf i).toNat)
          case atStart => exact ⟨0, D, T, m - 1, Nat.zero_le _, rfl, by omega, by have h := hwin6; rw [show (iv (List.drop kk T)).drop (1 * (rkN).size) = iv (T.drop (kk + 1)) from by show (iv (List.drop kk T)).drop 1 = _; simp [iv]] at h; exact h, hb6, hcb, Chg.refl _ _, Hinv⟩
          case round =>
            clear hwin6 hb6 Hinv hown
            obtain ⟨j, D2, T2, m2, hj, rfl, hkm2, hwx, hbx, hox, hCx, Hiv⟩ := hrel
            by_cases hjn : j < nL
            · obtain ⟨adL, y, rfl, hy, hcy⟩ := (HrL.out _ hCx).getI hjn
              have hyl := List.mem_of_getElem? hy
              have hyv := linesG_mem hyl
              obtain ⟨yn, rfl⟩ : ∃ yn : Nat, y = yn := ⟨y.toNat, by omega⟩
              have Htk : Hid ((linesG k xn).take (j + 1) = (linesG k xn).take j ++ [(yn : Int)]) := by
                show _ = _
                rw [List.take_add_one, hy]
                rfl
              have hiv := Hiv.out
              have hxT := List.mem_of_getElem? hiv.cur
              have hbd := hiv.bd xn hxT
              have hlen := hiv.len
              have hx0 := (hiv.mem xn).1 hxT
              have q1 : wr.cell? ⟨gd, yn, none⟩ = _ := hbx.cell yn
              rw [dA_get (by omega)] at q1
              have q2 : wr.cell? ⟨gd, xn, none⟩ = _ := hbx.cell xn
              rw [dA_get (by omega)] at q2
              have hgr := Hr.out.non (hC6.trans2 hCx fun b e => .inr e.1)
              by_cases hd : D2 yn < 0
              · cases hg : inI gone yn with
                | true =>
                  have Hnx := Lib.hid (hiv.skip (.inr (inI_iff.1 hg)))
                  rw [← Htk.out] at Hnx
                  have hcon := contains_any wr A n c gone yn hgr hn
                  rw [hg] at hcon
                  clear hiv hy hyl hgr
                  go_wp2_with fail
                  refine hcon.mono ?_
                  rintro e w8 ⟨rfl, rfl⟩
                  go_wp2_with fail
                  go_roundw
                  case rel => exact ⟨j + 1, D2, T2, m2, by omega, by go_num, hkm2, hwx, hbx, hox, hCx, Hnx⟩
                  case measure => simp [intOf]; omega
                | false =>
                  have Hnx := Lib.hid (hiv.found hyl hd (inI_no.1 hg))
                  rw [← Htk.out] at Hnx
                  have hcon := contains_any wr A n c gone yn hgr hn
                  rw [hg] at hcon
                  have f1 := hbx.frozen yn
                  have hb2 := hbx.put yn (.int .i64 (D2 xn + 1))
                  rw [dA_set] at hb2
                  have hgx := hbx.lt
                  obtain ⟨W1, hW1⟩ : ∃ W1, wr.setCell ⟨gd, yn, none⟩ (.int .i64 (D2 xn + 1)) = W1 := ⟨_, rfl⟩
                  have hC1 : Chg (fun b => w.heap.size ≤ b ∧ b < s5) w6 W1 := hW1 ▸ hCx.setCell (p := ⟨gd, yn, none⟩) (.inl ⟨hgw, hgl6⟩) _
                  have hw1 : Win rkN W1 u9 m2 (iv (T2.drop (kk + 1))) := hwx.chg (S := fun b => b = gd) (hW1 ▸ (Chg.refl _ _).set1 yn _) fun b hb e => (hox b hb).2.1 e
                  rw [hW1] at hb2
                  have hsz := hCx.size
                  have hsz1 := hC1.size
                  clear hiv hy hyl hgr hbx hwx
                  go_wp2_with fail
                  refine hcon.mono ?_
                  rintro e w8 ⟨rfl, rfl⟩
                  go_wp2_with (at_builtin; refine appW1 (K := rkN) rfl (.tmp 64) (.tmp 66) rfl hw1 rfl (cs := #[.int .i64 (yn : Int)]) rfl rfl (iv_one' [(yn : Int)]) ?_ ?_; (next => omega); intro v7 w7 o7 c7 hb7)
                  have hC7 : Chg (fun b => w.heap.size ≤ b ∧ b < s5) w6 w7 := hC1.trans2 c7 fun b e => by
                    have := hox b e
                    show (w.heap.size ≤ b ∧ b < s5) ∨ w6.heap.size ≤ b
                    omega
                  have hb8 := hb2.chg c7 fun e => (hox gd e).2.1 rfl
                  rw [show iv (T2.drop (kk + 1)) ++ (#[.int .i64 (yn : Int)] : Array Value).toList = iv ((T2 ++ [(yn : Int)]).drop (kk + 1)) from by rw [List.drop_append_of_le_length (by omega)]; simp [iv]] at o7
                  go_roundw
                  case rel => exact ⟨j + 1, _, _, m2 + 1, by omega, by go_num, by rw [List.length_append, List.length_singleton]; omega, o7, hb8, fun b hb => by
                    rcases hb7 b hb with h | h
                    · exact hox b h
                    · omega, hC7, Hnx⟩
                  case measure => simp [intOf]; omega
              · have Hnx := Lib.hid (hiv.skip (y := yn) (.inl (by omega)))
                rw [← Htk.out] at Hnx
                clear hiv hy hyl hgr
                go_wp2_with fail
                go_roundw
                case rel => exact ⟨j + 1, D2, T2, m2, by omega, by go_num, hkm2, hwx, hbx, hox, hCx, Hnx⟩
                case measure => simp [intOf]; omega
            · obtain rfl : j = nL := by omega
              have hlf : (linesG k xn).take j = linesG k xn := List.take_of_length_le (by have := hLl.out; omega)
              rw [hlf] at Hiv
              clear hlf
              have hkT := (List.getElem?_eq_some_iff.1 Hiv.out.cur).1
              have hTl2 := Hiv.out.len
              have Hs : Hid ((∃ x, Inv k gone aN D2 T2 (kk + 1) x [] ∧ 0 < m2) ∨ (Fin k gone aN D2 ∧ m2 = 0)) := by
                by_cases h : kk + 1 < T2.length
                · exact .inl ⟨_, Hiv.out.next (List.getElem?_eq_getElem h), by omega⟩
                · exact .inr ⟨Hiv.out.fin (by omega), by omega⟩
              have hCC := hC6.trans2 hCx fun b e => .inr e.1
              have hrel2 : RelF w k aN gone gd (n0 - 1) u9 wr := ⟨D2, T2, kk + 1, m2, by omega, hkm2, by omega, hwx, hbx, fun b hb => ⟨(hox b hb).1, (hox b hb).2.1⟩, hCC, Hs⟩
              have Hrel2 := Lib.hid hrel2
              have Hn0 := Lib.hid hn0
              have hn1 : 1 ≤ n0 := by omega
              clear hrel2 hn0 Hs hkT hTl2 Hiv hwx hbx hox
              go_wp2_with fail
              go_roundw
              case rel => exact ⟨_, Hrel2.out⟩
              case measure => rw [Hn0.out]; have := leastN_le (p := fun n => RelF w k aN gone gd n u9 wr) Hrel2.out; omega
        · subst hm
          have Hfin := Lib.hid hfin
          clear hfin hwin hrw
          go_wp2_with fail
          go_ret
          exact ⟨D, gd, rfl, hb, Hfin.out, by omega, hC⟩
end Go.Proofs.Ytjbiglaohlmknaa
