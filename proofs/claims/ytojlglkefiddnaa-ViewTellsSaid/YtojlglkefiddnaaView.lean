/-
  view.First, view.Without; the example of the document.
-/
import Derived.Test.YtojlglkefiddnaaViewDelete
import Derived.Test.YtojlglkefiddnaaViewMay
import Derived.Test.YtojlglkefiddnaaViewHas
namespace Go.Proofs.Ytojlglkefiddnaa
open Go.RowKit
set_option linter.unusedVariables false
set_option linter.unusedSimpArgs false

theorem cloneM_any (A : Option Addr) (n c : Nat) (xs : List Value) (w : World) (hr : Rds w (rkM).size A n xs) (h1 : ∀ u ∈ xs, u.oneCell' = true) (hn : n ≤ 1099511627776) :
    Calls Try.prog 28 #[.slice A n c] w fun e w2 => ∃ v, e = .returned v ∧ OwnR rkM w2 w.heap.size v n xs ∧ Chg Non w w2 := by
  have q : ∀ (w : World) (a : Option Addr) (n c : Nat), (binOp .eql 24 (.slice a n c) (.slice none 0 0)).run Try.prog w = .ok (.bool a.isNone) w := fun w a n c => Lib.run_eql_slice_nil w _ _ a n c 0 0 Try.underlying24
  cases A with
  | none =>
    have h0 : n = 0 := by
      rcases Nat.eq_zero_or_pos n with h0 | h0
      · exact h0
      · obtain ⟨_, h, _⟩ := hr.2 h0; cases h
    subst h0
    have hx : xs = [] := List.eq_nil_of_length_eq_zero (by have := hr.1; omega)
    subst hx
    go_enter Try.func28, Try.ntmps28
    go_wp2_with fail
    go_ret
    exact ⟨_, rfl, OwnR.nil _ _ _, Chg.refl _ _⟩
  | some ad =>
    have hown : OwnR rkM (w.alloc (.cells #[] (rkM).e)) w.heap.size (.slice (some ⟨w.heap.size, 0, none⟩) 0 0) 0 [] := World.ownsRow_made w #[] 0 (Nat.le_refl _) (by unfold maxLen; omega) rfl
    have hr2 := hr.non ((Chg.refl _ w).alloc (.cells #[] (rkM).e))
    go_enter Try.func28, Try.ntmps28
    go_wp2_with (at_builtin; refine appR (K := rkM) rfl (.tmp 5) (.tmp 6) rfl hown rfl hr2 rfl h1 ?_ ?_ ?_; rotate_right; intro v2 w2 h2 h3 h4)
    · go_ret
      exact ⟨_, rfl, by simpa using h2, OwnR.chgApp hown ((Chg.refl _ w).alloc _) (Nat.le_refl _) h3⟩
    all_goals (first | omega | (simp; done))

/-- The first view's members. -/
def firstM (k : Nat) : List Mb := (List.range k).map fun (i : Nat) => ((i : Int), (1 : Int))
theorem firstM_step (k : Nat) : firstM (k + 1) = firstM k ++ [((k : Int), (1 : Int))] := by simp [firstM, List.range_succ]
theorem firstM_len (k : Nat) : (firstM k).length = k := by simp [firstM]

set_option maxRecDepth 100000 in
set_option maxHeartbeats 400000 in
theorem first_yes (w : World) (n : Nat) (h1 : 1 ≤ n) (h16 : n ≤ 16) :
    Calls Try.prog 9 #[.int .i64 (n : Int)] w fun e w2 => ∃ A c, e = .returned (.tuple #[.agg #[.int .i64 1, .slice A n c], .int .i64 0]) ∧ Win rkM w2 (.slice A n c) n (mv (firstM n)) ∧ (∀ b, (Value.slice A n c).ownBlock = some b → w.heap.size ≤ b) ∧ Chg Non w w2 := by
  go_enter Try.func9, Try.ntmps9
  go_wp2_with fail
  go_loopw [15] (fun i wr => ∃ (k : Nat) (A : Option Addr) (c : Nat), k ≤ n ∧ i = .int .i64 k ∧ Blk wr (w.heap.size + 1) 26 #[.int .i64 1, .slice A k c] ∧ Blk wr w.heap.size 26 #[.int .i64 0, .slice none 0 0] ∧ OwnR rkM wr w.heap.size (.slice A k c) k (mv (firstM k)) ∧ Chg Non w wr) (fun i _ => n - (intOf i).toNat)
  case atStart =>
    have hb0 := (Blk.new w 26 #[.int .i64 0, .slice none 0 0]).alloc (.cells #[.int .i64 1, .slice none 0 0] 26)
    have hb1 := Blk.new (w.alloc (.cells #[.int .i64 0, .slice none 0 0] 26)) 26 #[.int .i64 1, .slice none 0 0]
    rw [World.size_alloc] at hb1
    exact ⟨0, none, 0, Nat.zero_le _, rfl, hb1, hb0, OwnR.nil _ _ _, ((Chg.refl _ _).alloc _).alloc _⟩
  case round =>
    obtain ⟨k, A, c, hk, rfl, hb1, hb0, hown, hC⟩ := hrel
    by_cases hlt : k < n
    · have c1 := hb1.cell 1
      simp only [List.getElem?_toArray, List.getElem?_cons_zero, List.getElem?_cons_succ] at c1
      have hst := Lib.hid (firstM_step k)
      go_wp2_with (at_builtin; refine appR1 (K := rkM) rfl (.tmp 19) (.tmp 22) rfl hown rfl (cs := #[.int .i64 k, .int .i64 1]) rfl rfl (cellM_one ((k : Int), 1)) ?_ ?_ ?_; (next => omega); (next => exact hC.size); intro v6 w6 h6 hc6 hv6; obtain ⟨A6, c6, rfl, _⟩ := h6.open_; have hb16 := hb1.chg hc6 (fun e => hown.apart hb1 (by decide) e); have c16 := hb16.cell 1; have f16 := hb16.frozen 1; simp only [List.getElem?_toArray, List.getElem?_cons_zero, List.getElem?_cons_succ] at c16)
      have hb06 := hb0.chg hc6 (fun e => hown.apart hb0 (by decide) e)
      have hC6 : Chg Non w w6 := OwnR.chgApp hown hC (Nat.le_refl _) hc6
      have hS : Chg (fun b => b = w.heap.size + 1) w6 (w6.setCell ⟨w.heap.size + 1, 1, none⟩ (.slice A6 (k + 1) c6)) := (Chg.refl _ _).set1 1 _
      have hb17 := hb16.put 1 (.slice A6 (k + 1) c6)
      simp only [List.setIfInBounds_toArray, List.set_cons_succ, List.set_cons_zero] at hb17
      have h7 : OwnR rkM (w6.setCell ⟨w.heap.size + 1, 1, none⟩ (.slice A6 (k + 1) c6)) w.heap.size (.slice A6 (k + 1) c6) (k + 1) (mv (firstM (k + 1))) := by
        rw [hst.out, mv_snoc]
        exact h6.chg hS (fun b hb e => h6.apart hb16 (by decide) (by rw [hb, show b = w.heap.size + 1 from e]))
      go_roundw
      case rel => exact ⟨k + 1, A6, c6, by omega, by go_num, hb17, hb06.chg hS (fun e => by have e : w.heap.size = w.heap.size + 1 := e; omega), h7, hC6.setCell (p := ⟨w.heap.size + 1, 1, none⟩) (.inr (by simp)) _⟩
      case measure => simp [intOf]; omega
    · obtain rfl : k = n := by omega
      have c0 := hb1.cell 0
      have c1 := hb1.cell 1
      have d0 := hb0.cell 0
      have d1 := hb0.cell 1
      have e0 := hb0.frozen 0
      have e1 := hb0.frozen 1
      simp only [List.getElem?_toArray, List.getElem?_cons_zero, List.getElem?_cons_succ] at c0 c1 d0 d1
      have hb2 := (hb0.put 0 (.int .i64 1)).put 1 (.slice A k c)
      simp only [List.setIfInBounds_toArray, List.set_cons_succ, List.set_cons_zero] at hb2
      have r0 := hb2.cell 0
      have r1 := hb2.cell 1
      simp only [List.getElem?_toArray, List.getElem?_cons_zero, List.getElem?_cons_succ] at r0 r1
      have hS : Chg (fun b => b = w.heap.size) wr ((wr.setCell ⟨w.heap.size, 0, none⟩ (.int .i64 1)).setCell ⟨w.heap.size, 1, none⟩ (.slice A k c)) := ((Chg.refl _ _).set1 0 _).set1 1 _
      have hwin := (Win.of_own hown).chg hS (fun b hb e => hown.apart hb0 (by decide) (by rw [hb, show b = w.heap.size from e]))
      have hC2 := hC.trans2 hS (fun b e => .inr (by have e : b = w.heap.size := e; omega))
      have hge := fun b (hb : (Value.slice A k c).ownBlock = some b) => (hown.lt hb).1
      clear hown hb0 hb1 hb2
      go_wp2_with fail
      exact bodyPost_ret (v := .tuple #[.agg #[.int .i64 1, .slice A k c], .int .i64 0]) (by simp [results, Try.results9, go_sem, r0, r1]) rfl ⟨A, c, rfl, hwin, hge, hC2⟩

theorem own_len {A : Option Addr} {n m c d : Nat} : (Value.slice A n c).ownBlock = (Value.slice A m d).ownBlock := by cases A <;> rfl
/-- What view.Without refuses: a view that can't be, no nodes, the root, one that is not there. -/
def outB (L : List Mb) (x : Int) : Bool := x == 0 || !hasN L x
def badB (ep : Int) (L : List Mb) (N : List Int) : Bool := !mayB ep L || N.isEmpty || N.any (outB L)

theorem may_count {ep : Int} {L : List Mb} (h : mayB ep L = true) : 1 ≤ ep ∧ ep ≤ 2147483647 := by
  unfold mayB countB at h
  simp only [Bool.and_eq_true, decide_eq_true_eq] at h
  exact h.1.2

set_option maxRecDepth 100000 in
set_option maxHeartbeats 1000000 in
/-- view.Without up to its switch: the three blocks; the world behind May. -/
theorem without_no (w : World) (ep : Int) (A : Option Addr) (n c : Nat) (L : List Mb) (B : Option Addr) (m d : Nat) (N : List Int) (h1 : Rds w 2 A n (mv L)) (hn : n ≤ 9223372036854775807) (h2 : Rds w 1 B m (iv N)) (hm : m ≤ 9223372036854775807) (hbad : badB ep L N = true) :
    Calls Try.prog 10 #[.agg #[.int .i64 ep, .slice A n c], .slice B m d] w fun e w2 => e = .returned (.tuple #[.agg #[.int .i64 0, .slice none 0 0], .int .i64 1]) ∧ Chg Non w w2 := by
  have hmf : ∀ (fn : Fn) (first cap : Array Value) (w : World), (Instr.makeFunc fn first cap).run Try.prog w = .ok (.func fn first cap) w := fun _ _ _ _ => rfl
  obtain ⟨w1, hw1⟩ : ∃ w1, ((w.alloc (.cells #[.int .i64 ep, .slice A n c] 26)).alloc (.cells #[.slice B m d] 22)).alloc (.cells #[.int .i64 0, .slice none 0 0] 26) = w1 := ⟨_, rfl⟩
  have hC : Chg Non w w1 := hw1 ▸ (((Chg.refl _ _).alloc _).alloc _).alloc _
  have hbV : Blk w1 w.heap.size 26 #[.int .i64 ep, .slice A n c] := hw1 ▸ ((Blk.new w _ _).alloc _).alloc _
  have hbN : Blk w1 (w.heap.size + 1) 22 #[.slice B m d] := by
    have := (Blk.new (w.alloc (.cells #[.int .i64 ep, .slice A n c] 26)) 22 #[.slice B m d]).alloc (.cells #[.int .i64 0, .slice none 0 0] 26)
    rw [hw1, World.size_alloc] at this
    exact this
  have hbR : Blk w1 (w.heap.size + 2) 26 #[.int .i64 0, .slice none 0 0] := by
    have := Blk.new ((w.alloc (.cells #[.int .i64 ep, .slice A n c] 26)).alloc (.cells #[.slice B m d] 22)) 26 #[.int .i64 0, .slice none 0 0]
    rw [hw1, World.size_alloc, World.size_alloc] at this
    exact this
  have n0 := hbN.cell 0
  simp only [List.getElem?_toArray, List.getElem?_cons_zero] at n0
  have hN := h2.lenMap (f := fun n : Int => .int .i64 n)
  have hml : ((m : Int) == 0) = N.isEmpty := by
    cases N with
    | nil => have : m = 0 := hN; rw [this]; rfl
    | cons x N => have : m = N.length + 1 := hN; rw [this]; exact beq_eq_false_iff_ne.2 (by omega)
  have hcase : (N.any (outB L) = true ∧ mayB ep L = false) ∨ (N.any (outB L) = false ∧ mayB ep L = false) ∨ (N.any (outB L) = true ∧ mayB ep L = true ∧ N.isEmpty = false) ∨ (N.any (outB L) = false ∧ mayB ep L = true ∧ N.isEmpty = true) := by
    unfold badB at hbad
    cases h1 : N.any (outB L) <;> cases h2 : mayB ep L <;> cases h3 : N.isEmpty <;> simp_all
  have Hml := Lib.hid hml
  clear hml hbad hN
  have h1' := h1.non hC
  have h2' := h2.non hC
  rcases hcase with ⟨ho, hy⟩ | ⟨ho, hy⟩ | ⟨ho, hy, he⟩ | ⟨ho, hy, he⟩
  all_goals
    have Ho := Lib.hid ho
    have Hy := Lib.hid hy
    clear ho hy
    try (have He := Lib.hid he; clear he)
    go_enter Try.func10, Try.ntmps10
    go_wp2_with fail
    refine (containsFuncI_any w1 B m d N 26 _ (outB L) h2' hm (enters Try.func26 (by kernel_rfl) rfl) (fun w2 x hc2 _ => without1_any w2 x w.heap.size ep A n c L (hbV.non hc2) (h1'.non hc2) hn)).mono ?_
    rintro e w2 ⟨rfl, hc2⟩
    rw [Ho.out]
    have v0 := (hbV.non hc2).cell 0
    have v1 := (hbV.non hc2).cell 1
    have m0 := (hbN.non hc2).cell 0
    simp only [List.getElem?_toArray, List.getElem?_cons_zero, List.getElem?_cons_succ] at v0 v1 m0
    go_wp2_with fail
    refine (may_any _ ep A n c L (h1'.non hc2) hn).mono ?_
    rintro e w3 ⟨rfl, hc3⟩
    rw [Hy.out]
    have hC3 := (hC.non hc2).non hc3
    have hb3 := (hbR.non hc2).non hc3
    have m03 := ((hbN.non hc2).non hc3).cell 0
    have d0 := hb3.cell 0
    have d1 := hb3.cell 1
    have e0 := hb3.frozen 0
    have e1 := hb3.frozen 1
    simp only [List.getElem?_toArray, List.getElem?_cons_zero, List.getElem?_cons_succ] at d0 d1 m03
    have hb4 := (hb3.put 0 (.int .i64 0)).put 1 (.slice none 0 0)
    simp only [List.setIfInBounds_toArray, List.set_cons_succ, List.set_cons_zero] at hb4
    have r0 := hb4.cell 0
    have r1 := hb4.cell 1
    simp only [List.getElem?_toArray, List.getElem?_cons_zero, List.getElem?_cons_succ] at r0 r1
    have hC4 := (hC3.setCell (p := ⟨w.heap.size + 2, 0, none⟩) (.inr (by simp)) (.int .i64 0)).setCell (p := ⟨w.heap.size + 2, 1, none⟩) (.inr (by simp)) (.slice none 0 0)
    try (have hmz : ((m : Int) == 0) = false := Hml.out.trans He.out)
    try (have hmz : ((m : Int) == 0) = true := Hml.out.trans He.out)
    clear hb3 hb4 hbV hbN hbR hc2 hc3 hC3
    go_wp2_with fail
    exact bodyPost_ret (v := .tuple #[.agg #[.int .i64 0, .slice none 0 0], .int .i64 1]) (by simp [results, Try.results10, go_sem, r0, r1]) rfl ⟨rfl, hC4⟩

set_option maxRecDepth 100000 in
set_option maxHeartbeats 1000000 in
theorem without_yes (w : World) (ep : Int) (A : Option Addr) (c : Nat) (L : List Mb) (B : Option Addr) (m d : Nat) (N : List Int) (h1 : Rds w 2 A L.length (mv L)) (hn : L.length ≤ 1099511627776) (h2 : Rds w 1 B m (iv N)) (hm : m ≤ 9223372036854775807) (hbad : badB ep L N = false) (hep : ep ≠ 2147483647) :
    Calls Try.prog 10 #[.agg #[.int .i64 ep, .slice A L.length c], .slice B m d] w fun e w2 => ∃ A2 c2, e = .returned (.tuple #[.agg #[.int .i64 (ep + 1), .slice A2 (kept (fun m => inI N m.1) L).length c2], .int .i64 0]) ∧
      Win rkM w2 (.slice A2 (kept (fun m => inI N m.1) L).length c2) (kept (fun m => inI N m.1) L).length (mv (kept (fun m => inI N m.1) L)) ∧ (∀ b, (Value.slice A2 (kept (fun m => inI N m.1) L).length c2).ownBlock = some b → w.heap.size ≤ b) ∧ Chg Non w w2 := by
  have hmf : ∀ (fn : Fn) (first cap : Array Value) (w : World), (Instr.makeFunc fn first cap).run Try.prog w = .ok (.func fn first cap) w := fun _ _ _ _ => rfl
  obtain ⟨w1, hw1⟩ : ∃ w1, ((w.alloc (.cells #[.int .i64 ep, .slice A L.length c] 26)).alloc (.cells #[.slice B m d] 22)).alloc (.cells #[.int .i64 0, .slice none 0 0] 26) = w1 := ⟨_, rfl⟩
  have hC : Chg Non w w1 := hw1 ▸ (((Chg.refl _ _).alloc _).alloc _).alloc _
  have hbV : Blk w1 w.heap.size 26 #[.int .i64 ep, .slice A L.length c] := hw1 ▸ ((Blk.new w _ _).alloc _).alloc _
  have hbN : Blk w1 (w.heap.size + 1) 22 #[.slice B m d] := by
    have := (Blk.new (w.alloc (.cells #[.int .i64 ep, .slice A L.length c] 26)) 22 #[.slice B m d]).alloc (.cells #[.int .i64 0, .slice none 0 0] 26)
    rw [hw1, World.size_alloc] at this
    exact this
  have hbR : Blk w1 (w.heap.size + 2) 26 #[.int .i64 0, .slice none 0 0] := by
    have := Blk.new ((w.alloc (.cells #[.int .i64 ep, .slice A L.length c] 26)).alloc (.cells #[.slice B m d] 22)) 26 #[.int .i64 0, .slice none 0 0]
    rw [hw1, World.size_alloc, World.size_alloc] at this
    exact this
  have n0 := hbN.cell 0
  simp only [List.getElem?_toArray, List.getElem?_cons_zero] at n0
  have hN := h2.lenMap (f := fun n : Int => .int .i64 n)
  have hgood : N.any (outB L) = false ∧ mayB ep L = true ∧ N.isEmpty = false := by
    unfold badB at hbad
    cases h1 : N.any (outB L) <;> cases h2 : mayB ep L <;> cases h3 : N.isEmpty <;> simp_all
  obtain ⟨ho, hy, he⟩ := hgood
  have hml : ((m : Int) == 0) = false := by
    cases N with
    | nil => cases he
    | cons x N => have : m = N.length + 1 := hN; rw [this]; exact beq_eq_false_iff_ne.2 (by omega)
  obtain ⟨hep1, hep2⟩ := may_count hy
  have hepb : (ep == 2147483647) = false := beq_eq_false_iff_ne.2 hep
  have hadd : IntKind.i64.wrap (ep + 1) = ep + 1 := IntWalk.i64_in _ (by omega)
  have h1' := h1.non hC
  have h2' := h2.non hC
  have Ho := Lib.hid ho
  have Hy := Lib.hid hy
  have H2 := Lib.hid h2
  clear ho hy he hbad hN hep h1 h2
  go_enter Try.func10, Try.ntmps10
  go_wp2_with fail
  clear hw1
  refine (containsFuncI_any w1 B m d N 26 _ (outB L) h2' hm (enters Try.func26 (by kernel_rfl) rfl) (fun w2 x hc2 _ => without1_any w2 x w.heap.size ep A L.length c L (hbV.non hc2) (h1'.non hc2) (by omega))).mono ?_
  rintro e w2 ⟨rfl, hc2⟩
  rw [Ho.out]
  have v0 := (hbV.non hc2).cell 0
  have v1 := (hbV.non hc2).cell 1
  have m0 := (hbN.non hc2).cell 0
  simp only [List.getElem?_toArray, List.getElem?_cons_zero, List.getElem?_cons_succ] at v0 v1 m0
  go_wp2_with fail
  refine (may_any _ ep A L.length c L (h1'.non hc2) (by omega)).mono ?_
  rintro e w3 ⟨rfl, hc3⟩
  rw [Hy.out]
  have hC3 := (hC.non hc2).non hc3
  have hbV3 := (hbV.non hc2).non hc3
  have hbN3 := (hbN.non hc2).non hc3
  have hbR3 := (hbR.non hc2).non hc3
  have h13 := (h1'.non hc2).non hc3
  have h23 := (h2'.non hc2).non hc3
  have m03 := hbN3.cell 0
  have v03 := hbV3.cell 0
  have v13 := hbV3.cell 1
  simp only [List.getElem?_toArray, List.getElem?_cons_zero, List.getElem?_cons_succ] at m03 v03 v13
  clear hbV hbN hbR hc2 hc3 h1' h2' hC v0 v1 m0 n0
  go_wp2_with fail
  refine (cloneM_any A L.length c _ _ h13 (mv_one L) hn).mono ?_
  rintro e w4 ⟨v4, rfl, hown, hc4⟩
  obtain ⟨A7, c7, rfl, hnc7, _, _⟩ := hown.open_
  have hC4 := hC3.non hc4
  have hbV4 := hbV3.non hc4
  have hbN4 := hbN3.non hc4
  have hbR4 := hbR3.non hc4
  have h24 := h23.non hc4
  have hwin := Win.of_own hown
  have hge : ∀ b, (Value.slice A7 L.length c7).ownBlock = some b → w3.heap.size ≤ b := fun b hb => (hown.lt hb).1
  have hs3 := hC3.size
  have hvl := hbV3.lt
  have hnl := hbN3.lt
  have hrl := hbR3.lt
  have kv : ∀ w2, Chg (fun b => (Value.slice A7 L.length c7).ownBlock = some b) w4 w2 → w2.cell? ⟨w.heap.size, 0, none⟩ = some (.int .i64 ep) := fun w2 h => h.cell (hbV4.cell 0) (fun e => by have := hge _ e; simp only at this; omega)
  have hlt4 : ∀ b, (Value.slice A7 L.length c7).ownBlock = some b → b < w4.heap.size := fun b hb => (hown.lt hb).2
  clear hc4 hbV3 hbN3 hbR3 h13 h23 hC3 m03 v03 v13 hown
  go_wp2_with fail
  refine st_region_tail 8 7 (fun b => (Value.slice A7 L.length c7).ownBlock = some b) [5] [] (fun _ _ v w2 => Win rkM w2 (.slice A7 (kept (fun m => inI N m.1) L).length c7) (kept (fun m => inI N m.1) L).length (mv (kept (fun m => inI N m.1) L))) (fun _ _ _ _ => True) (fun _ _ v => v = .slice A7 (kept (fun m => inI N m.1) L).length c7) (fun w2 => Win rkM w2 (.slice A7 L.length c7) L.length (mv L)) (by kernel_rfl) (by kernel_rfl) (by kernel_rfl) hlt4 hwin (fun _ _ h => h.alloc _) ?_
  repeat (first | (refine st_pass (by rfl) ?_; simp only [Act.put, List.setIfInBounds_toArray, List.set_cons_succ, List.set_cons_zero]) | (refine st_plain (fun b => (Value.slice A7 L.length c7).ownBlock = some b) (w4) rfl rfl (f := ?_) (by rfl) rfl rfl (fun w hC hG => ?_) ?_; rotate_left; (clear hG; first | (go_simp; done) | (go_simp; with_reducible rfl) | (simp [*, go_sem, ↓IntWalk.iteOmega]; done) | (simp [*, go_sem, ↓IntWalk.iteOmega]; with_reducible rfl)); simp only [Act.put, List.setIfInBounds_toArray, List.set_cons_succ, List.set_cons_zero]))
  refine st_major (fun b => (Value.slice A7 L.length c7).ownBlock = some b) (w4) rfl rfl (by rfl) rfl (⟨_, rfl⟩) (fun _ _ _ _ _ _ => trivial) (fun v w ob h => h.alloc ob) (fun w hC hG hS => settle_of (r2 := ?_) ?_ ?_) ?_
  rotate_left
  (first | (go_simp; done) | (go_simp; rfl))
  · refine settle_enter ((deleteFuncM_any _ A7 c7 L 30 _ (fun m => inI N m.1) hS (enters Try.func30 (by kernel_rfl) rfl) (fun w2 x hc2 _ => without2_any w2 x.1 x.2 _ B m d N ((hbN4.chg hC (fun e => by have := hge _ e; omega)).chg hc2 (fun e => by have := hge _ e; omega)) ?_ hm)).mono ?_)
    · exact H2.out.non ((hC4.trans2 hC (fun b e => .inr (by have := hge _ e; omega))).trans2 hc2 (fun b e => .inr (by have := hge _ e; omega)))
    · rintro e w6 ⟨rfl, h6, hc6⟩
      exact ⟨_, rfl, rfl, hc6, h6, trivial⟩
  · rintro v5 rfl
    simp only [Act.put, List.setIfInBounds_toArray, List.set_cons_succ, List.set_cons_zero]
    repeat (first | (refine st_pass (by rfl) ?_; simp only [Act.put, List.setIfInBounds_toArray, List.set_cons_succ, List.set_cons_zero]) | (refine st_plain (fun b => (Value.slice A7 L.length c7).ownBlock = some b) (w4) rfl rfl (f := ?_) (by rfl) rfl rfl (fun w hC hG => ?_) ?_; rotate_left; (clear hG; first | (go_simp; done) | (go_simp; with_reducible rfl) | (simp [*, go_sem, ↓IntWalk.iteOmega]; done) | (simp [*, go_sem, ↓IntWalk.iteOmega]; with_reducible rfl)); simp only [Act.put, List.setIfInBounds_toArray, List.set_cons_succ, List.set_cons_zero]))
    refine st_tail (fun b => (Value.slice A7 L.length c7).ownBlock = some b) w4 rfl rfl rfl (fun w5 hC5 hS5 _ => ?_)
    simp only [List.drop_succ_cons, List.drop_zero]
    have hb5 := hbR4.chg hC5 (fun e => by have := hge _ e; omega)
    have d0 := hb5.cell 0
    have d1 := hb5.cell 1
    have e0 := hb5.frozen 0
    have e1 := hb5.frozen 1
    simp only [List.getElem?_toArray, List.getElem?_cons_zero, List.getElem?_cons_succ] at d0 d1
    have hb6 := (hb5.put 0 (.int .i64 (ep + 1))).put 1 (.slice A7 (kept (fun m => inI N m.1) L).length c7)
    simp only [List.setIfInBounds_toArray, List.set_cons_succ, List.set_cons_zero] at hb6
    have r0 := hb6.cell 0
    have r1 := hb6.cell 1
    simp only [List.getElem?_toArray, List.getElem?_cons_zero, List.getElem?_cons_succ] at r0 r1
    have hC6 : Chg Non w _ := ((hC4.trans2 hC5 (fun b e => .inr (by have := hge _ e; omega))).setCell (p := ⟨w.heap.size + 2, 0, none⟩) (.inr (by simp)) (.int .i64 (ep + 1))).setCell (p := ⟨w.heap.size + 2, 1, none⟩) (.inr (by simp)) (.slice A7 (kept (fun m => inI N m.1) L).length c7)
    have hS : Chg (fun b => b = w.heap.size + 2) w5 ((w5.setCell ⟨w.heap.size + 2, 0, none⟩ (.int .i64 (ep + 1))).setCell ⟨w.heap.size + 2, 1, none⟩ (.slice A7 (kept (fun m => inI N m.1) L).length c7)) := ((Chg.refl _ _).set1 0 _).set1 1 _
    have hwin6 := hS5.chg hS (fun b hb e => by have := hge b (own_len ▸ hb); have e : b = w.heap.size + 2 := e; omega)
    have Hge : Hid (∀ b, (Value.slice A7 (kept (fun m => inI N m.1) L).length c7).ownBlock = some b → w.heap.size ≤ b) := fun b hb => by have := hge b (own_len ▸ hb); omega
    clear kv hb5 hb6 hS5 hC5 hbV4 hbN4 hbR4 hwin hS hge hlt4
    go_wp2_with fail
    exact bodyPost_ret (v := .tuple #[.agg #[.int .i64 (ep + 1), .slice A7 (kept (fun m => inI N m.1) L).length c7], .int .i64 0]) (by simp [results, Try.results10, go_sem, r0, r1]) rfl ⟨A7, c7, rfl, hwin6, Hge.out, hC6⟩
end Go.Proofs.Ytojlglkefiddnaa
