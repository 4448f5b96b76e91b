/-
  gleanerref14.Reach, gleanerref14.Far: the document's own search.
-/
import Derived.Test.YtjbiglaohlmknaaGraphReach
namespace Go.Proofs.Ytjbiglaohlmknaa
open Go.RowKit
set_option linter.unusedVariables false
set_option linter.unusedSimpArgs false

/-- A row of N truth values: who was found. -/
def bA (N : Nat) (D : Int → Int) : Array Value := ((List.range N).map fun i => Value.bool (decide (0 ≤ D (i : Nat)))).toArray
theorem bA_get {N : Nat} {D : Int → Int} {i : Nat} (h : i < N) : (bA N D)[i]? = some (.bool (decide (0 ≤ D i))) := by
  unfold bA
  simp [h]
theorem bA_set {N : Nat} {D : Int → Int} {i : Nat} {v : Int} (hv : 0 ≤ v) : (bA N D).setIfInBounds i (.bool true) = bA N (updF D i v) := by
  unfold bA
  rw [List.setIfInBounds_toArray]
  congr 1
  apply List.ext_getElem?
  intro j
  rw [List.getElem?_set]
  simp only [List.getElem?_map, List.getElem?_range, List.length_map, List.length_range]
  by_cases h : i = j
  · subst h
    rw [if_pos rfl]
    by_cases hj : i < N
    · simp only [List.getElem?_range hj, Option.map_some, updF_same, hj, if_true, decide_eq_true hv]
    · simp [hj]
  · rw [if_neg h]
    by_cases hj : j < N
    · simp only [List.getElem?_range hj, Option.map_some]
      rw [updF_other (by omega)]
    · simp [hj]
theorem bA_0 (N : Nat) : (madeCells #[.bool false] N : Array Value) = bA N (fun _ => -1) := by
  unfold bA
  apply Array.toList_inj.1
  rw [toList_madeCells_one]
  show List.replicate N (Value.bool false) = (List.range N).map _
  apply List.ext_getElem?
  intro j
  by_cases hj : j < N
  · rw [List.getElem?_map, List.getElem?_range hj, List.getElem?_replicate, if_pos hj]
    rfl
  · rw [List.getElem?_map, List.getElem?_replicate, if_neg hj, List.getElem?_eq_none (by simp; omega)]
    rfl
/-- How far each is, and one more; 0: not found. -/
def incF (D : Int → Int) : Int → Int := fun i => D i + 1
theorem inc_set {N : Nat} {D : Int → Int} {i : Nat} {v u : Int} (h : u = v + 1) : (dA N (incF D)).setIfInBounds i (.int .i64 u) = dA N (incF (updF D i v)) := by
  subst h
  rw [dA_set]
  exact dA_congr fun j hj => by
    unfold updF incF
    by_cases e : (j : Int) = i <;> simp [e]
theorem inc_0 (N : Nat) : (madeCells #[.int .i64 0] N : Array Value) = dA N (incF (fun _ => -1)) := by
  rw [fill_0]
  exact dA_congr fun j hj => by
    unfold fillF incF
    rw [if_neg (by omega)]
    rfl

set_option maxRecDepth 100000 in
set_option maxHeartbeats 4000000 in
theorem refReach_core (w : World) (N aN : Nat) (A : Option Addr) (n c : Nat) (gone : List Int) (hr : Rds w 1 A n (iv gone)) (hn : n ≤ 9223372036854775807) (hN : N ≤ 4096) (haN : aN < N) (hg : inI gone aN = false) :
    Calls Try.prog 12 #[.int .i64 (N : Int), .int .i64 (aN : Int), .slice A n c] w (ReachPost w N aN gone) := by
  have hmk := fun w => run_make_row' (P := Try.prog) 35 4 (.bool false) 1 Try.underlying35 (by kernel_rfl) rfl .i64 .i64 N (by omega) (by omega) w
  have h2 := refIn_any w A n c gone aN hr hn
  rw [hg] at h2
  have Hg := Lib.hid (inI_no.1 hg)
  have Hr := Lib.hid hr
  clear hr hg
  have q0 : (madeCells #[Value.bool false] N)[aN]? = some (.bool false) := by rw [bA_0, bA_get haN]; rfl
  have d1 : decide ((N : Int) < 1) = false := decide_eq_false (by omega)
  have d2 : decide (4096 < (N : Int)) = false := decide_eq_false (by omega)
  have d3 : decide ((aN : Int) < 0) = false := decide_eq_false (by omega)
  have d4 : decide ((N : Int) ≤ (aN : Int)) = false := decide_eq_false (by omega)
  have d5 : decide (N ≤ aN) = false := decide_eq_false (by omega)
  go_enter Try.func12, Try.ntmps12
  go_wp2_with fail
  refine h2.mono ?_
  rintro e w1 ⟨rfl, rfl⟩
  go_wp2_with fail
  rw [bA_0, bA_set (v := 0) (Int.le_refl _)]
  have hb0 := Blk.new w 4 (bA N (updF (fun _ => -1) aN 0))
  have hC0 : Chg Non w (w.alloc (.cells (bA N (updF (fun _ => -1) aN 0)) 4)) := (Chg.refl _ _).alloc _
  obtain ⟨W0, hW0⟩ : ∃ W0, w.alloc (.cells (bA N (updF (fun _ => -1) aN 0)) 4) = W0 := ⟨_, rfl⟩
  have hsz0 : w.heap.size + 1 = W0.heap.size := by rw [← hW0, World.size_alloc]
  rw [hW0] at hb0 hC0
  rw [hW0, hsz0]
  obtain ⟨gd, hgde⟩ : ∃ gd, w.heap.size = gd := ⟨_, rfl⟩
  have hgw : w.heap.size ≤ gd := by omega
  have hgl2 : gd < W0.heap.size := by omega
  rw [hgde] at hb0
  rw [hgde]
  have hs0 := hC0.size
  clear hgde hsz0 hmk h2 hW0 q0 d1 d2 d3 d4 d5
  have hC3 : Chg Non w (W0.alloc (.cells #[.int .i64 (aN : Int)] 3)) := hC0.alloc _
  have hb3 : Blk (W0.alloc (.cells #[.int .i64 (aN : Int)] 3)) gd 4 (bA N (updF (fun _ => -1) aN 0)) := hb0.alloc _
  have hwin : Win rkN (W0.alloc (.cells #[.int .i64 (aN : Int)] 3)) (.slice (some ⟨W0.heap.size, 0, none⟩) 1 1) 1 (iv [(aN : Int)]) :=
    ⟨rfl, .inr ⟨W0.heap.size, 0, 1, #[.int .i64 (aN : Int)], rfl, Blk.new _ _ _, Nat.le_refl _, by decide, by show 0 + 1 * 1 ≤ 1; omega, fun j u hu => by rw [Nat.zero_add]; show ([Value.int .i64 (aN : Int)].toArray)[j]? = _; rw [List.getElem?_toArray]; exact hu⟩⟩
  have Hs : Hid ((∃ x, Inv N gone aN (updF (fun _ => -1) aN 0) [(aN : Int)] 0 x [] ∧ 0 < 1) ∨ (Fin N gone aN (updF (fun _ => -1) aN 0) ∧ 0 = 1)) := .inl ⟨_, Inv.start (by omega) (by omega), by omega⟩
  clear hb0 hC0
  go_loopw [9, 10] (fun v i wr => ∃ (D : Int → Int) (T : List Int) (kk m : Nat), i = .int .i64 kk ∧ kk ≤ m ∧ m ≤ N ∧ Hid (m = T.length) ∧ Win rkN wr v m (iv T) ∧ Blk wr gd 4 (bA N D) ∧ (∀ b, v.ownBlock = some b → w.heap.size ≤ b ∧ b ≠ gd) ∧ Chg Non w wr ∧ Hid ((∃ x, Inv N gone aN D T kk x [] ∧ kk < m) ∨ (Fin N gone aN D ∧ kk = m))) (fun _ i _ => N - (intOf i).toNat)
  case atStart => exact ⟨_, [(aN : Int)], 0, 1, rfl, by omega, by omega, rfl, hwin, hb3, fun b hb => by have hb : some W0.heap.size = some b := hb; cases hb; omega, hC3, Hs⟩
  case round =>
    clear hwin hb3 hC3 Hs hgl2 hs0
    obtain ⟨D, T, kk, m, rfl, hkm, hmN, Hm, hwin, hb, hown, hC, Hs⟩ := hrel
    obtain ⟨A2, c2, rfl, hmc, hcm, hrw⟩ := hwin.open_
    have hd : ((∃ x, Inv N gone aN D T kk x [] ∧ kk < m) ∨ (Fin N gone aN D ∧ kk = m)) := Hs.out
    clear Hs
    rcases hd with ⟨x, hinv, hm⟩ | ⟨hfin, hm⟩
    · have Hinv := Lib.hid hinv
      obtain ⟨ad, y, rfl, hy, hcell⟩ := hrw.getI hm
      obtain rfl : x = y := by
        rw [hinv.cur] at hy
        exact Option.some.inj hy
      have hxv := hinv.val x (List.mem_of_getElem? hinv.cur)
      obtain ⟨xn, rfl⟩ : ∃ xn : Nat, x = xn := ⟨x.toNat, by omega⟩
      clear hinv hy hrw
      go_wp2_with fail
      refine (refLines_any N xn wr).mono ?_
      rintro e w6 ⟨vL, nL, rfl, hL, hc6⟩
      obtain ⟨AL, cL, rfl, hnL, hcL, hrL, hobL⟩ := hL.open_
      have hLl := Lib.hid (show nL = (linesG N xn).length from hrL.lenMap (f := fun n : Int => .int .i64 n))
      have s6 := hc6.size
      have hnLi : nL ≤ 9223372036854775807 := by unfold maxLen at hcL; omega
      have hgl6 : gd < wr.heap.size := hb.lt
      have hcb : ∀ b, (Value.slice (some ad) m c2).ownBlock = some b → w.heap.size ≤ b ∧ b ≠ gd ∧ (b < wr.heap.size ∨ w6.heap.size ≤ b) := by
        intro b hb
        have h1 := hown b hb
        have h2 := hwin.lt hb
        exact ⟨h1.1, h1.2, .inl h2⟩
      obtain ⟨s5, hs5⟩ : ∃ s5, wr.heap.size = s5 := ⟨_, rfl⟩
      have hC6 := hC.non hc6
      have hb6 := hb.non hc6
      have hwin6 := hwin.non hc6
      clear hc6 hC hb hwin hcell
      have HrL : Hid (∀ wx, Chg (fun b => w.heap.size ≤ b ∧ b < s5) w6 wx → Rds wx 1 AL nL (iv (linesG N xn))) := fun wx hx => hrL.chg hx fun ad e hb => by
        have := (hL.lt (hobL ad e)).1
        omega
      clear hL hrL hobL
      go_wp2_with fail
      rw [hs5] at hcb hgl6 s6
      clear hs5
      go_loopw [9, 12] (fun v i wx => ∃ (j : Nat) (D2 : Int → Int) (T2 : List Int) (m2 : Nat), j ≤ nL ∧ i = .int .i64 j ∧ m2 ≤ N ∧ Hid (m2 = T2.length) ∧ Win rkN wx v m2 (iv T2) ∧ Blk wx gd 4 (bA N D2) ∧ (∀ b, v.ownBlock = some b → w.heap.size ≤ b ∧ b ≠ gd ∧ (b < s5 ∨ w6.heap.size ≤ b)) ∧ Chg (fun b => w.heap.size ≤ b ∧ b < s5) w6 wx ∧ Hid (Inv N gone aN D2 T2 kk xn ((linesG N xn).take j))) (fun _ i _ => nL - (intOf i).toNat)
      case atStart => exact ⟨0, D, T, m, Nat.zero_le _, rfl, hmN, Hm, hwin6, hb6, hcb, Chg.refl _ _, Hinv⟩
      case round =>
        clear hwin6 hb6 Hinv hown
        obtain ⟨j, D2, T2, m2, hj, rfl, hm2N, Hm2, hwx, hbx, hox, hCx, Hiv⟩ := hrel
        by_cases hjn : j < nL
        · obtain ⟨adL, y, rfl, hy, hcy⟩ := (HrL.out _ hCx).getI hjn
          have hyl := List.mem_of_getElem? hy
          have hyv := linesG_mem hyl
          obtain ⟨yn, rfl⟩ : ∃ yn : Nat, y = yn := ⟨y.toNat, by omega⟩
          have Htk : Hid ((linesG N xn).take (j + 1) = (linesG N xn).take j ++ [(yn : Int)]) := by
            show _ = _
            rw [List.take_add_one, hy]
            rfl
          have hiv := Hiv.out
          have hgr := Hr.out.non (hC6.trans2 hCx fun b e => .inr e.1)
          have q1 : wr.cell? ⟨gd, yn, none⟩ = _ := hbx.cell yn
          rw [bA_get (by omega)] at q1
          by_cases hd : D2 yn < 0
          · rw [decide_eq_false (by omega)] at q1
            cases hg : inI gone yn with
            | true =>
              have Hnx := Lib.hid (hiv.skip (.inr (inI_iff.1 hg)))
              rw [← Htk.out] at Hnx
              have hcon := refIn_any wr A n c gone yn hgr hn
              rw [hg] at hcon
              clear hiv hy hyl hgr hd hg
              go_wp2_with fail
              refine hcon.mono ?_
              rintro e w8 ⟨rfl, rfl⟩
              go_wp2_with fail
              go_roundw
              case rel => exact ⟨j + 1, D2, T2, m2, by omega, by go_num, hm2N, Hm2, hwx, hbx, hox, hCx, Hnx⟩
              case measure => simp [intOf]; omega
            | false =>
              have hnx := hiv.found hyl hd (inI_no.1 hg)
              rw [← Htk.out] at hnx
              have hlen := hnx.len
              rw [List.length_append, List.length_singleton, ← Hm2.out] at hlen
              have hx0 := (hiv.mem xn).1 (List.mem_of_getElem? hiv.cur)
              have Hnx := Lib.hid hnx
              have hcon := refIn_any wr A n c gone yn hgr hn
              rw [hg] at hcon
              have f1 := hbx.frozen yn
              have hb2 := hbx.put yn (.bool true)
              rw [bA_set (v := D2 xn + 1) (by omega)] at hb2
              have hgx := hbx.lt
              obtain ⟨W1, hW1⟩ : ∃ W1, wr.setCell ⟨gd, yn, none⟩ (.bool true) = W1 := ⟨_, rfl⟩
              have hC1 : Chg (fun b => w.heap.size ≤ b ∧ b < s5) w6 W1 := hW1 ▸ hCx.setCell (p := ⟨gd, yn, none⟩) (.inl ⟨hgw, hgl6⟩) _
              have hw1 : Win rkN W1 u9 m2 (iv T2) := hwx.chg (S := fun b => b = gd) (hW1 ▸ (Chg.refl _ _).set1 yn _) fun b hb e => (hox b hb).2.1 e
              rw [hW1] at hb2
              have hcy1 : W1.cell? (adL.add j) = some (.int .i64 (yn : Int)) := by
                obtain ⟨ad9, y9, e9, hy9, hc9⟩ := (HrL.out _ hC1).getI hjn
                obtain rfl := Option.some.inj e9
                rw [hy] at hy9
                obtain rfl := Option.some.inj hy9
                exact hc9
              have hsz := hCx.size
              have hsz1 := hC1.size
              clear hiv hy hyl hgr hbx hwx hnx hx0 hd hg
              go_wp2_with fail
              refine hcon.mono ?_
              rintro e w8 ⟨rfl, rfl⟩
              go_wp2_with (at_builtin; refine appW1 (K := rkN) rfl (.tmp 86) (.tmp 91) rfl hw1 rfl (cs := #[.int .i64 (yn : Int)]) rfl rfl (iv_one' [(yn : Int)]) ?_ ?_; (next => omega); intro v7 w7 o7 c7 hb7)
              have hC7 : Chg (fun b => w.heap.size ≤ b ∧ b < s5) w6 w7 := hC1.trans2 c7 fun b e => by
                have := hox b e
                show (w.heap.size ≤ b ∧ b < s5) ∨ w6.heap.size ≤ b
                omega
              have hb8 := hb2.chg c7 fun e => (hox gd e).2.1 rfl
              rw [show iv T2 ++ (#[.int .i64 (yn : Int)] : Array Value).toList = iv (T2 ++ [(yn : Int)]) from by simp [iv]] at o7
              have Hm3 : Hid (m2 + 1 = (T2 ++ [(yn : Int)]).length) := by show _ = _; rw [List.length_append, List.length_singleton, Hm2.out]
              go_roundw
              case rel => exact ⟨j + 1, _, _, m2 + 1, by omega, by go_num, by omega, Hm3, o7, hb8, fun b hb => by
                rcases hb7 b hb with h | h
                · exact hox b h
                · omega, hC7, Hnx⟩
              case measure => simp [intOf]; omega
          · rw [decide_eq_true (by omega)] at q1
            have Hnx := Lib.hid (hiv.skip (y := yn) (.inl (by omega)))
            rw [← Htk.out] at Hnx
            have hcon := refIn_any wr A n c gone yn hgr hn
            clear hiv hy hyl hgr hd
            go_wp2_with fail
            refine hcon.mono ?_
            rintro e w8 ⟨rfl, rfl⟩
            go_wp2_with fail
            go_roundw
            case rel => exact ⟨j + 1, D2, T2, m2, by omega, by go_num, hm2N, Hm2, hwx, hbx, hox, hCx, Hnx⟩
            case measure => simp [intOf]; omega
        · obtain rfl : j = nL := by omega
          have hlf : (linesG N xn).take j = linesG N xn := List.take_of_length_le (by have := hLl.out; omega)
          rw [hlf] at Hiv
          clear hlf
          have hkT : kk < m2 := by rw [Hm2.out]; exact (List.getElem?_eq_some_iff.1 Hiv.out.cur).1
          have Hs : Hid ((∃ x, Inv N gone aN D2 T2 (kk + 1) x [] ∧ kk + 1 < m2) ∨ (Fin N gone aN D2 ∧ kk + 1 = m2)) := by
            have hm2 := Hm2.out
            by_cases h : kk + 1 < m2
            · exact .inl ⟨_, Hiv.out.next (List.getElem?_eq_getElem (by omega)), h⟩
            · exact .inr ⟨Hiv.out.fin (by omega), by omega⟩
          have hCC := hC6.trans2 hCx fun b e => .inr e.1
          clear Hiv
          go_wp2_with fail
          go_roundw
          case rel => exact ⟨D2, T2, kk + 1, m2, by go_num, by omega, hm2N, Hm2, hwx, hbx, fun b hb => ⟨(hox b hb).1, (hox b hb).2.1⟩, hCC, Hs⟩
          case measure => simp [intOf]; omega
    · subst hm
      have Hfin := Lib.hid hfin
      have hs3 := hC.size
      clear hfin hwin hrw hown Hm
      go_wp2_with fail
      obtain ⟨wz, rfl⟩ : ∃ wz, wz = wr := ⟨_, rfl⟩
      have hgl := hb.lt
      go_loopw [14, 15] (fun v i wx => ∃ (k m : Nat), k ≤ N ∧ i = .int .i64 k ∧ OwnR rkN wx wz.heap.size v m (iv (reachL k D)) ∧ Blk wx gd 4 (bA N D) ∧ Chg Non wz wx) (fun _ i _ => N - (intOf i).toNat)
      case atStart => exact ⟨0, 0, Nat.zero_le _, rfl, OwnR.nil _ _ _, hb, Chg.refl _ _⟩
      case round =>
        clear hb
        obtain ⟨k, m, hk, rfl, hown, hbk, hC2⟩ := hrel
        have Hm := Lib.hid (show m = (reachL k D).length from (by obtain ⟨_, _, _, _, _, h, _⟩ := hown.open_; exact h.lenMap (f := fun n : Int => .int .i64 n)))
        have hml : m ≤ 4096 := by have := Hm.out; have := reachL_len k D; omega
        have hs3 := hC2.size
        by_cases hlt : k < N
        · have q : wr.cell? ⟨gd, k, none⟩ = _ := hbk.cell k
          rw [bA_get hlt] at q
          by_cases hd : 0 ≤ D k
          · rw [decide_eq_true hd] at q
            have Hr := Lib.hid (show reachL (k + 1) D = reachL k D ++ [(k : Int)] by rw [reachL_succ, if_pos hd])
            clear hd
            go_wp2_with (at_builtin; refine appR1 (K := rkN) rfl (.tmp 102) (.tmp 104) rfl hown rfl (cs := #[.int .i64 (k : Int)]) rfl rfl (iv_one' [(k : Int)]) ?_ ?_ ?_; (next => omega); (next => exact hs3); intro v7 w7 o7 c7 _)
            have hC7 := OwnR.chgApp hown hC2 (Nat.le_refl _) c7
            have hb7 := hbk.chg c7 (fun e => by have := (hown.lt e).1; omega)
            rw [show iv (reachL k D) ++ (#[.int .i64 (k : Int)] : Array Value).toList = iv (reachL (k + 1) D) from by rw [Hr.out]; simp [iv]] at o7
            clear hown hbk hC2 c7
            go_roundw
            case rel => exact ⟨k + 1, m + 1, by omega, by go_num, o7, hb7, hC7⟩
            case measure => simp [intOf]; omega
          · rw [decide_eq_false hd] at q
            have hr1 : reachL (k + 1) D = reachL k D := by rw [reachL_succ, if_neg hd, List.append_nil]
            rw [← hr1] at hown
            clear hr1 Hm hd
            go_wp2_with fail
            go_roundw
            case rel => exact ⟨k + 1, m, by omega, by go_num, hown, hbk, hC2⟩
            case measure => simp [intOf]; omega
        · obtain rfl : k = N := by omega
          go_wp2_with fail
          go_ret
          exact ⟨_, m, _, rfl, hown.mono hC.size, .inl ⟨isG_iff.2 (by omega), Hg.out, D, Hfin.out, rfl⟩, hC.non hC2⟩

set_option maxRecDepth 100000 in
set_option maxHeartbeats 2000000 in
theorem refReach_any (w : World) (nodes a : Int) (A : Option Addr) (n c : Nat) (gone : List Int) (hr : Rds w 1 A n (iv gone)) (hn : n ≤ 9223372036854775807) :
    Calls Try.prog 12 #[.int .i64 nodes, .int .i64 a, .slice A n c] w (ReachPost w nodes a gone) := by
  have h2 := refIn_any w A n c gone a hr hn
  by_cases hn : 1 ≤ nodes ∧ nodes ≤ 4096 ∧ 0 ≤ a ∧ a < nodes
  · obtain ⟨k1, k2, k3, k4⟩ := hn
    obtain ⟨N, rfl⟩ : ∃ N : Nat, nodes = N := ⟨nodes.toNat, by omega⟩
    obtain ⟨aN, rfl⟩ : ∃ aN : Nat, a = aN := ⟨a.toNat, by omega⟩
    cases hg : inI gone aN with
    | false => exact refReach_core w N aN A n c gone hr ‹_› (by omega) (by omega) hg
    | true =>
      have Hg := Lib.hid (inI_iff.1 hg)
      rw [hg] at h2
      clear hg hr
      go_enter Try.func12, Try.ntmps12
      go_wp2_with fail
      refine h2.mono ?_
      rintro e w1 ⟨rfl, rfl⟩
      go_wp2_with fail
      go_ret
      exact ⟨_, 0, [], rfl, OwnR.nil _ _ _, .inr ⟨.inr Hg.out, rfl⟩, Chg.refl _ _⟩
  · have Hno : Hid (isG nodes a = false) := by
      show _ = _
      rw [← Bool.not_eq_true, isG_iff]
      exact hn
    have hcase : nodes < 1 ∨ (1 ≤ nodes ∧ 4096 < nodes) ∨ (1 ≤ nodes ∧ nodes ≤ 4096 ∧ a < 0) ∨ (1 ≤ nodes ∧ nodes ≤ 4096 ∧ 0 ≤ a ∧ nodes ≤ a) := by omega
    clear hn hr
    rcases hcase with k1 | ⟨k1, k2⟩ | ⟨k1, k2, k3⟩ | ⟨k1, k2, k3, k4⟩
    all_goals
      go_enter Try.func12, Try.ntmps12
      go_wp2_with fail
      refine h2.mono ?_
      rintro e w1 ⟨rfl, rfl⟩
      go_wp2_with fail
      go_ret
      exact ⟨_, 0, [], rfl, OwnR.nil _ _ _, .inr ⟨.inl Hno.out, rfl⟩, Chg.refl _ _⟩
end Go.Proofs.Ytjbiglaohlmknaa
