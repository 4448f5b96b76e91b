/-
  gleanerlaw18.ViewGoes: the walk.
-/
import Derived.Test.YtojlglkefiddnaaViewNewestWalk
namespace Go.Proofs.Ytojlglkefiddnaa
open Go.RowKit
set_option linter.unusedVariables false
set_option linter.unusedSimpArgs false

theorem and15 (x : Int) : bits .and .i64 x 15 = x % 16 := by
  show IntKind.i64.wrap ((BitVec.ofInt 64 x &&& BitVec.ofInt 64 15).toNat : Int) = _
  rw [BitVec.toNat_and, show (BitVec.ofInt 64 15).toNat = 2 ^ 4 - 1 from rfl, Nat.and_two_pow_sub_one_eq_mod, BitVec.toNat_ofInt, IntKind.wrap_i64]
  omega

theorem okFrom_low {a b : Int} : ∀ {L : List Mb}, a ≤ b → okFrom b L = true → okFrom a L = true
  | [], _, _ => rfl
  | m :: r, h, ho => by
    unfold okFrom at *
    simp only [Bool.and_eq_true, decide_eq_true_eq] at *
    exact ⟨⟨⟨by omega, ho.1.1.2⟩, ho.1.2⟩, ho.2⟩
theorem okFrom_kept (p : Mb → Bool) : ∀ {L : List Mb} {a : Int}, okFrom a L = true → okFrom a (kept p L) = true
  | [], _, _ => rfl
  | m :: r, a, h => by
    unfold okFrom at h
    simp only [Bool.and_eq_true, decide_eq_true_eq] at h
    have ih := okFrom_kept p h.2
    unfold kept
    cases hp : p m with
    | true =>
      rw [List.filter_cons_of_neg (by simp [hp])]
      exact okFrom_low (by omega) ih
    | false =>
      rw [List.filter_cons_of_pos (by simp [hp])]
      unfold okFrom
      simp only [Bool.and_eq_true, decide_eq_true_eq]
      exact ⟨⟨⟨h.1.1.1, h.1.1.2⟩, h.1.2⟩, ih⟩
theorem okFrom_gt : ∀ {L : List Mb} {a : Int}, okFrom a L = true → ∀ m ∈ L, a < m.1
  | [], _, _, m, hm => by cases hm
  | x :: r, a, h, m, hm => by
    unfold okFrom at h
    simp only [Bool.and_eq_true, decide_eq_true_eq] at h
    rcases List.mem_cons.1 hm with rfl | hm
    · exact h.1.1.1
    · have := okFrom_gt h.2 m hm
      omega
theorem inI_one (n x : Int) : inI [n] x = (x == n) := by simp [inI]
/-- Those that are not the node. -/
abbrev less (n : Int) (L : List Mb) : List Mb := kept (fun m => inI [n] m.1) L
theorem less_all {n : Int} {L : List Mb} (h : ∀ m ∈ L, m.1 ≠ n) : less n L = L := kept_all fun m hm => by rw [inI_one]; exact beq_eq_false_iff_ne.2 (h m hm)
theorem less_len {n : Int} : ∀ {L : List Mb} {a : Int}, okFrom a L = true → hasN L n = true → (less n L).length + 1 = L.length
  | [], _, _, h => by cases h
  | m :: r, a, ho, h => by
    unfold okFrom at ho
    simp only [Bool.and_eq_true, decide_eq_true_eq] at ho
    by_cases hm : m.1 = n
    · have h1 : less n r = r := less_all fun x hx => by have := okFrom_gt ho.2 x hx; omega
      have h2 : less n (m :: r) = r := by
        unfold less kept
        rw [List.filter_cons_of_neg (by simp [inI_one, hm])]
        exact h1
      rw [h2]
      simp
    · have h2 : less n (m :: r) = m :: less n r := by
        unfold less kept
        rw [List.filter_cons_of_pos (by simp [inI_one, hm])]
      have h3 : hasN r n = true := by
        unfold hasN at h ⊢
        simp only [List.any_cons, Bool.or_eq_true, beq_iff_eq] at h
        rcases h with h | h
        · exact absurd h hm
        · exact h
      rw [h2, List.length_cons, List.length_cons, less_len ho.2 h3]
theorem less_has (n x : Int) (L : List Mb) : hasN (less n L) x = (hasN L x && x != n) := by
  rw [Bool.eq_iff_iff]
  simp only [hasN, less, kept, List.any_eq_true, List.mem_filter, Bool.and_eq_true, beq_iff_eq, bne_iff_ne, Bool.not_eq_true', inI_one, beq_eq_false_iff_ne]
  constructor
  · rintro ⟨m, ⟨hm, h1⟩, h2⟩
    exact ⟨⟨m, hm, h2⟩, by rw [← h2]; exact h1⟩
  · rintro ⟨⟨m, hm, h2⟩, h1⟩
    exact ⟨m, ⟨hm, by rw [h2]; exact h1⟩, h2⟩

/-- What is known behind some rounds: who is gone, who is left. -/
structure Goes (nodes : Nat) (gone : Nat → Bool) (ep : Int) (L : List Mb) : Prop where
  rise : okFrom (-1) L = true
  root : ∃ r, L = (0, 1) :: r
  one : ∀ m ∈ L, m.2 = 1
  has : ∀ x : Nat, hasN L x = (decide (x < nodes) && !gone x)
  ep : ep + L.length = 1 + nodes
  le : L.length ≤ nodes
theorem Goes.pos {nodes : Nat} {gone : Nat → Bool} {ep : Int} {L : List Mb} (h : Goes nodes gone ep L) : 1 ≤ L.length := by
  obtain ⟨r, hr⟩ := h.root
  rw [hr]
  simp
theorem Goes.may {nodes : Nat} {gone : Nat → Bool} {ep : Int} {L : List Mb} (h : Goes nodes gone ep L) (hn : nodes ≤ 16) : mayB ep L = true := by
  have h1 := h.ep
  have h2 := h.le
  have h3 := h.pos
  unfold mayB countB
  rw [h.rise, decide_eq_true (show 1 ≤ ep by omega), decide_eq_true (show ep ≤ 2147483647 by omega)]
  obtain ⟨r, hr⟩ := h.root
  rw [hr]
  rfl
theorem Goes.bad {nodes : Nat} {gone : Nat → Bool} {ep : Int} {L : List Mb} (h : Goes nodes gone ep L) (hn : nodes ≤ 16) (x : Nat) : badB ep L [(x : Int)] = !(decide (0 < x) && (decide (x < nodes) && !gone x)) := by
  unfold badB
  rw [h.may hn]
  simp only [Bool.not_true, List.isEmpty_cons, Bool.false_or, List.any_cons, List.any_nil, Bool.or_false]
  unfold outB
  rw [h.has]
  rcases Nat.eq_zero_or_pos x with h0 | h0
  · subst h0; simp
  · have : ((x : Int) == 0) = false := beq_eq_false_iff_ne.2 (by omega)
    rw [this, decide_eq_true h0]
    simp
theorem Goes.less {nodes : Nat} {gone : Nat → Bool} {ep : Int} {L : List Mb} (h : Goes nodes gone ep L) {x : Nat} (h0 : 0 < x) (hx : x < nodes) (hg : gone x = false) :
    Goes nodes (fun y => decide (y = x) || gone y) (ep + 1) (less (x : Int) L) := by
  have hhas : hasN L x = true := by rw [h.has, hg]; simp [hx]
  have hlen := less_len h.rise hhas
  refine ⟨okFrom_kept _ h.rise, ?_, fun m hm => h.one m (List.mem_filter.1 hm).1, fun y => ?_, ?_, ?_⟩
  · obtain ⟨r, hr⟩ := h.root
    refine ⟨Ytojlglkefiddnaa.less (x : Int) r, ?_⟩
    rw [hr]
    unfold Ytojlglkefiddnaa.less kept
    rw [List.filter_cons_of_pos (by simp [inI_one]; omega)]
  · rw [less_has, h.has]
    by_cases e : y = x
    · subst e; simp
    · have : ((y : Int) != (x : Int)) = true := by rw [bne_iff_ne]; omega
      rw [this]
      simp [e]
  · have := h.ep; omega
  · have := h.le; omega
theorem Goes.start {nodes : Nat} (h : 1 ≤ nodes) (h16 : nodes ≤ 16) : Goes nodes (fun _ => false) 1 (firstM nodes) := by
  have hall : ∀ k ≤ 16, ∀ k2 < k, 0 < k → okFrom (-1) (firstM k) = true ∧ (firstM k).head? = some (0, 1) := by decide
  obtain ⟨h1, h2⟩ := hall nodes h16 0 (by omega) (by omega)
  refine ⟨h1, ?_, fun m hm => ?_, fun x => ?_, by rw [firstM_len], by rw [firstM_len]; exact Nat.le_refl _⟩
  · cases hL : firstM nodes with
    | nil => rw [hL] at h2; cases h2
    | cons m r => rw [hL] at h2; simp at h2; exact ⟨r, by rw [h2]⟩
  · simp only [firstM, List.mem_map] at hm
    obtain ⟨i, _, rfl⟩ := hm
    rfl
  · unfold hasN firstM
    rw [Bool.eq_iff_iff]
    simp only [List.any_map, List.any_eq_true, List.mem_range, Function.comp, beq_iff_eq, Bool.not_false, Bool.and_true, decide_eq_true_eq]
    constructor
    · rintro ⟨i, hi, e⟩
      have : i = x := by omega
      omega
    · intro hx
      exact ⟨x, hx, rfl⟩
theorem Goes.in0 {nodes : Nat} {gone : Nat → Bool} {ep : Int} {L : List Mb} (h : Goes nodes gone ep L) : inM L 0 1 = true := by
  obtain ⟨r, hr⟩ := h.root
  rw [hr]
  rfl
theorem not_in {n : Int} (L : List Mb) (l : Int) : inM (less n L) n l = false := by
  unfold inM
  rw [List.any_eq_false]
  intro m hm
  have h2 : (!inI [n] m.1) = true := (List.mem_filter.1 hm).2
  rw [inI_one] at h2
  unfold sameM
  simp only [Bool.not_eq_true', beq_eq_false_iff_ne] at h2
  have : (n == m.1) = false := beq_eq_false_iff_ne.2 (fun e => h2 e.symm)
  simp [this]

theorem b16_get (gs : Array Value) (x : Nat) (v : Value) {y : Nat} (hx : x < gs.size) : (gs.setIfInBounds x v)[y]? = if y = x then some v else gs[y]? := by
  by_cases h : y = x
  · subst h
    rw [if_pos rfl, Array.getElem?_setIfInBounds_self_of_lt hx]
  · rw [if_neg h, Array.getElem?_setIfInBounds_ne (fun e => h e.symm)]

set_option maxRecDepth 100000 in
set_option maxHeartbeats 3000000 in
theorem viewGoes_core (w : World) (nodes : Nat) (hn1 : 1 ≤ nodes) (hn16 : nodes ≤ 16) (A : Option Addr) (n c : Nat) (l : List Int) (hr : Rds w 1 A n (iv l)) (hl : ∀ x ∈ l, i64 x) (hn : n ≤ 50) :
    Calls Try.prog 3 #[.int .i64 (nodes : Int), .slice A n c] w fun e w2 => e = .returned (.bool true) ∧ Chg Non w w2 := by
  have hrk := Lib.hid hr
  have hmk : ∀ w : World, (Instr.makeSlice 30 (.int .i64 16) (.int .i64 16)).run Try.prog w = .ok (.slice (some ⟨w.heap.size, 0, none⟩) 16 16) (w.alloc (.cells (Array.replicate 16 (.bool false)) 4)) := fun _ => by kernel_rfl
  clear hr
  go_enter Try.func3, Try.ntmps3
  go_wp2_with fail
  refine (view_alive _).mono ?_
  rintro e w1 ⟨rfl, hc1⟩
  go_wp2_with fail
  refine (first_yes _ nodes hn1 hn16).mono ?_
  rintro e w2 ⟨A2, c2, rfl, hwin, hge, hc2⟩
  obtain ⟨w3, hw3⟩ : ∃ w3, (w2.alloc (.cells #[.int .i64 1, .slice A2 nodes c2] 26)).alloc (.cells (Array.replicate 16 (.bool false)) 4) = w3 := ⟨_, rfl⟩
  have hc3 : Chg Non w2 w3 := hw3 ▸ ((Chg.refl _ _).alloc _).alloc _
  have hbV : Blk w3 w2.heap.size 26 #[.int .i64 1, .slice A2 nodes c2] := hw3 ▸ (Blk.new w2 _ _).alloc _
  have hbG : Blk w3 (w2.heap.size + 1) 4 (Array.replicate 16 (.bool false)) := by
    have := Blk.new (w2.alloc (.cells #[.int .i64 1, .slice A2 nodes c2] 26)) 4 (Array.replicate 16 (.bool false))
    rw [hw3, World.size_alloc] at this
    exact this
  have hwin3 := hwin.non hc3
  have hC3 := (hc1.non hc2).non hc3
  have hsz2 : w.heap.size ≤ w2.heap.size := (hc1.non hc2).size
  have hge3 : Hid (∀ b, (Value.slice A2 nodes c2).ownBlock = some b → w.heap.size ≤ b) := fun b hb => Nat.le_trans hc1.size (hge b hb)
  have hstart := Goes.start hn1 hn16
  have hfl := firstM_len nodes
  clear hc1 hc2 hc3 hwin hge
  go_wp2_with fail
  clear hw3
  go_loopw [9, 10] (fun lf i wr => ∃ (k : Nat) (gone : Nat → Bool) (ep : Int) (L : List Mb) (A : Option Addr) (c : Nat) (gs : Array Value), k ≤ n ∧ i = .int .i64 k ∧ lf = .int .i64 (L.length : Int) ∧ Hid (Goes nodes gone ep L) ∧ Blk wr w2.heap.size 26 #[.int .i64 ep, .slice A L.length c] ∧ Blk wr (w2.heap.size + 1) 4 gs ∧ gs.size = 16 ∧ Hid (∀ x, x < 16 → gs[x]? = some (.bool (gone x))) ∧ Win rkM wr (.slice A L.length c) L.length (mv L) ∧ Chg Non w wr) (fun _ i _ => n - (intOf i).toNat)
  case atStart =>
    refine ⟨0, _, 1, firstM nodes, A2, c2, _, Nat.zero_le _, rfl, by rw [hfl], hstart, by rw [hfl]; exact hbV, hbG, by simp, (fun x hx => by simp [hx]), by rw [hfl]; exact hwin3, hC3⟩
  case round =>
    clear hbV hbG hwin3 hC3 hge3 hstart hfl
    obtain ⟨k, gone, ep, L, A, c, gs, hk, rfl, rfl, hgoes, hbV, hbG, hgs, hgone, hwin, hC⟩ := hrel
    have c0 := hbV.cell 0
    have c1 := hbV.cell 1
    simp only [List.getElem?_toArray, List.getElem?_cons_zero, List.getElem?_cons_succ] at c0 c1
    by_cases hlt : k < n
    · obtain ⟨ad, x, rfl, hx, hcell⟩ := hrk.out.getI hlt
      have hcr := hC.cell hcell id
      obtain ⟨r, hr16, hand⟩ : ∃ r : Nat, r < 16 ∧ bits .and .i64 x 15 = (r : Int) := ⟨(x % 16).toNat, by omega, by rw [and15]; omega⟩
      have hbadr := hgoes.out.bad hn16 r
      have hle := hgoes.out.le
      have hL : L.length ≤ 16 := by omega
      obtain ⟨w4, hw4⟩ : ∃ w4, wr.alloc (.cells #[.int .i64 (r : Int)] 3) = w4 := ⟨_, rfl⟩
      have hc4 : Chg Non wr w4 := hw4 ▸ (Chg.refl _ _).alloc _
      have hrN : Rds w4 1 (some ⟨wr.heap.size, 0, none⟩) 1 (iv [(r : Int)]) := by
        rw [← hw4]
        have := Rds.one wr (.int .i64 (r : Int)) 3
        simpa [iv] using this
      have hwin4 := hwin.non hc4
      have hbV4 := hbV.non hc4
      have hbG4 := hbG.non hc4
      have hC4 := hC.non hc4
      have hgr := hgone.out r hr16
      clear hx hcell hc4 hwin hbV hbG hC
      have hcase : r = 0 ∨ (0 < r ∧ nodes ≤ r) ∨ (0 < r ∧ r < nodes ∧ gone r = true) ∨ (0 < r ∧ r < nodes ∧ gone r = false) := by
        rcases Nat.eq_zero_or_pos r with h | h
        · exact .inl h
        · rcases Nat.lt_or_ge r nodes with h2 | h2
          · cases hg : gone r with
            | true => exact .inr (.inr (.inl ⟨h, h2, rfl⟩))
            | false => exact .inr (.inr (.inr ⟨h, h2, rfl⟩))
          · exact .inr (.inl ⟨h, h2⟩)
      rcases hcase with h | ⟨h0, hge⟩ | ⟨h0, hlt2, hg⟩ | ⟨h0, hlt2, hg⟩
      · have hz : (!(decide (0 < r) && (decide (r < nodes) && !gone r))) = true := by rw [decide_eq_false (show ¬ 0 < r by omega)]; rfl
        rw [hz] at hbadr
        have hr0 : (r : Int) ≤ 0 := by omega
        clear hz h
        have Hb := Lib.hid hbadr
        clear hbadr
        go_wp2_with fail
        clear hw4
        refine (without_no _ ep A L.length c L _ 1 1 [(r : Int)] hwin4.rds (by omega) hrN (by omega) Hb.out).mono ?_
        rintro e w5 ⟨rfl, hc5⟩
        have hwin5 := hwin4.non hc5
        have hbV5 := hbV4.non hc5
        have hbG5 := hbG4.non hc5
        have hC5 := hC4.non hc5
        have g0 := (hbG5.alloc (.cells #[.int .i64 0, .slice none 0 0] 26)).cell r
        rw [hgr] at g0
        clear hc5 hwin4 hbV4 hbG4 hC4 hrN hcr
        go_wp2_with fail
        refine (num_any _ _).mono ?_
        rintro e w9 ⟨rfl, rfl⟩
        go_wp2_with fail
        go_roundw
        case rel => exact ⟨k + 1, gone, ep, L, A, c, gs, by omega, by go_num, rfl, hgoes, hbV5.alloc _, hbG5.alloc _, hgs, hgone, hwin5.alloc _, hC5.alloc _⟩
        case measure => simp [intOf]; omega
      · have hz : (!(decide (0 < r) && (decide (r < nodes) && !gone r))) = true := by rw [decide_eq_false (show ¬ r < nodes by omega)]; simp
        rw [hz] at hbadr
        clear hz
        have Hb := Lib.hid hbadr
        clear hbadr
        go_wp2_with fail
        clear hw4
        refine (without_no _ ep A L.length c L _ 1 1 [(r : Int)] hwin4.rds (by omega) hrN (by omega) Hb.out).mono ?_
        rintro e w5 ⟨rfl, hc5⟩
        have hwin5 := hwin4.non hc5
        have hbV5 := hbV4.non hc5
        have hbG5 := hbG4.non hc5
        have hC5 := hC4.non hc5
        have g0 := (hbG5.alloc (.cells #[.int .i64 0, .slice none 0 0] 26)).cell r
        rw [hgr] at g0
        clear hc5 hwin4 hbV4 hbG4 hC4 hrN hcr
        go_wp2_with fail
        refine (num_any _ _).mono ?_
        rintro e w9 ⟨rfl, rfl⟩
        go_wp2_with fail
        go_roundw
        case rel => exact ⟨k + 1, gone, ep, L, A, c, gs, by omega, by go_num, rfl, hgoes, hbV5.alloc _, hbG5.alloc _, hgs, hgone, hwin5.alloc _, hC5.alloc _⟩
        case measure => simp [intOf]; omega
      · have hz : (!(decide (0 < r) && (decide (r < nodes) && !gone r))) = true := by rw [hg]; simp
        rw [hz] at hbadr
        rw [hg] at hgr
        clear hz
        have Hb := Lib.hid hbadr
        clear hbadr
        go_wp2_with fail
        clear hw4
        refine (without_no _ ep A L.length c L _ 1 1 [(r : Int)] hwin4.rds (by omega) hrN (by omega) Hb.out).mono ?_
        rintro e w5 ⟨rfl, hc5⟩
        have hwin5 := hwin4.non hc5
        have hbV5 := hbV4.non hc5
        have hbG5 := hbG4.non hc5
        have hC5 := hC4.non hc5
        have g0 := (hbG5.alloc (.cells #[.int .i64 0, .slice none 0 0] 26)).cell r
        rw [hgr] at g0
        clear hc5 hwin4 hbV4 hbG4 hC4 hrN hcr
        go_wp2_with fail
        refine (num_any _ _).mono ?_
        rintro e w9 ⟨rfl, rfl⟩
        go_wp2_with fail
        go_roundw
        case rel => exact ⟨k + 1, gone, ep, L, A, c, gs, by omega, by go_num, rfl, hgoes, hbV5.alloc _, hbG5.alloc _, hgs, hgone, hwin5.alloc _, hC5.alloc _⟩
        case measure => simp [intOf]; omega
      · have hz : (!(decide (0 < r) && (decide (r < nodes) && !gone r))) = false := by rw [hg, decide_eq_true h0, decide_eq_true hlt2]; rfl
        rw [hz] at hbadr
        rw [hg] at hgr
        have hnext := hgoes.out.less h0 hlt2 hg
        have hlen := less_len (n := (r : Int)) hgoes.out.rise (by rw [hgoes.out.has, hg]; simp [hlt2])
        have hep := hgoes.out.ep
        have hps := hgoes.out.pos
        have hin0 := hnext.in0
        have hnotin := not_in (n := (r : Int)) L 1
        have hepg : ep ≠ 2147483647 := by omega
        have Hb := Lib.hid hbadr
        have HG := Lib.hid hgoes
        clear hz hbadr hg hgoes
        go_wp2_with fail
        clear hw4
        refine (without_yes _ ep A c L _ 1 1 [(r : Int)] hwin4.rds (by omega) hrN (by omega) Hb.out hepg).mono ?_
        generalize hM : less (r : Int) L = M at hnext hlen hin0 hnotin
        rw [show kept (fun m => inI [(r : Int)] m.1) L = M from hM]
        rintro e w5 ⟨A5, c5, rfl, hwin5, _, hc5⟩
        have hbV5 := hbV4.non hc5
        have hbG5 := hbG4.non hc5
        have hC5 := hC4.non hc5
        obtain ⟨w6, hw6⟩ : ∃ w6, w5.alloc (.cells #[.int .i64 (ep + 1), .slice A5 M.length c5] 26) = w6 := ⟨_, rfl⟩
        have hc6 : Chg Non w5 w6 := hw6 ▸ (Chg.refl _ _).alloc _
        have hbW6 : Blk w6 w5.heap.size 26 #[.int .i64 (ep + 1), .slice A5 M.length c5] := hw6 ▸ Blk.new _ _ _
        have hwin6 := hwin5.non hc6
        have hbV6 := hbV5.non hc6
        have hbG6 := hbG5.non hc6
        have hC6 := hC5.non hc6
        have g0 := hbG6.cell r
        have gf := hbG6.frozen r
        rw [hgr] at g0
        have x0 := hbW6.cell 0
        have x1 := hbW6.cell 1
        have y0 := hbV6.cell 0
        have y1 := hbV6.cell 1
        have yf0 := hbV6.frozen 0
        have yf1 := hbV6.frozen 1
        simp only [List.getElem?_toArray, List.getElem?_cons_zero, List.getElem?_cons_succ] at x0 x1 y0 y1
        obtain ⟨w7, hw7⟩ : ∃ w7, w6.setCell ⟨w2.heap.size + 1, r, none⟩ (.bool true) = w7 := ⟨_, rfl⟩
        have hS7 : Chg (fun b => b = w2.heap.size + 1) w6 w7 := hw7 ▸ (Chg.refl _ _).set1 r _
        have hbG7 : Blk w7 (w2.heap.size + 1) 4 (gs.setIfInBounds r (.bool true)) := hw7 ▸ hbG6.put r (.bool true)
        have hVG : w2.heap.size ≠ w2.heap.size + 1 := by omega
        have hWG : w5.heap.size ≠ w2.heap.size + 1 := fun e => by have := hbG5.lt; omega
        have hWV : w5.heap.size ≠ w2.heap.size := fun e => by have := hbV5.lt; omega
        have hbV7 := hbV6.chg hS7 hVG
        have hbW7 := hbW6.chg hS7 hWG
        have hwin7 := hwin6.chg hS7 (fun b hb e => hwin6.apart hbG6 (by decide) (by rw [hb, show b = w2.heap.size + 1 from e]))
        have hC7 := hC6.trans2 hS7 (fun b e => .inr (by have e : b = w2.heap.size + 1 := e; omega))
        have x07 := hbW7.cell 0
        have x17 := hbW7.cell 1
        have y07 := hbV7.cell 0
        have y17 := hbV7.cell 1
        have yf07 := hbV7.frozen 0
        have yf17 := hbV7.frozen 1
        simp only [List.getElem?_toArray, List.getElem?_cons_zero, List.getElem?_cons_succ] at x07 x17 y07 y17
        have hgone7 : Hid (∀ x, x < 16 → (gs.setIfInBounds r (.bool true))[x]? = some (.bool (decide (x = r) || gone x))) := by
          intro x hx
          rw [b16_get gs r _ (by omega)]
          by_cases e : x = r
          · rw [if_pos e, e]; simp
          · rw [if_neg e, hgone.out x hx]; simp [e]
        have hadd : ep + 1 ≤ 17 := by omega
        have hadd0 : 1 ≤ ep := by have := HG.out.le; omega
        have hsub : (L.length : Int) - 1 = (M.length : Int) := by omega
        have hMl : (M.length : Int) ≤ 16 := by omega
        have hne2 : ((M.length : Int) != (L.length : Int) - 1) = false := by rw [bne_eq_false_iff_eq]; omega
        have hne1 : ((ep + 1) != (ep + 1)) = false := by simp
        have Hin0 := Lib.hid hin0
        have Hnotin := Lib.hid hnotin
        have Hnext := Lib.hid hnext
        have hf1 : fencedB (ep + 1) M (ep + 1) (r : Int) 1 = true := by unfold fencedB; rw [hnotin]; simp
        have hf2 : fencedB (ep + 1) M (ep + 1) 0 1 = false := by unfold fencedB; rw [hin0]; simp
        have hf3 : fencedB (ep + 1) M ep 0 1 = true := by
          unfold fencedB
          have : (ep != ep + 1) = true := by rw [bne_iff_ne]; omega
          rw [this]
          rfl
        have Hf1 := Lib.hid hf1
        have Hf2 := Lib.hid hf2
        have Hf3 := Lib.hid hf3
        have Hsub := Lib.hid hsub
        have Hlen := Lib.hid hlen
        have hpos2 : 1 ≤ L.length := hps
        clear hf1 hf2 hf3 hin0 hnotin hnext hM hc5 hc6 hbV5 hbG5 hC5 hwin5 hwin4 hbV4 hbG4 hC4 hrN hcr hS7 hbG6 hbV6 hbW6 hwin6 hC6 hep hsub hlen c0 c1
        go_wp2_with fail
        clear hw6
        refine (num_any _ _).mono ?_
        rintro e w9 ⟨rfl, rfl⟩
        go_wp2_with fail
        clear x0 x1 y0 y1 yf0 yf1 x07 x17 y07 y17 yf07 yf17 g0 gf
        refine (fenced_any _ (ep + 1) A5 M.length c5 M (ep + 1) (r : Int) 1 hwin7.rds (by omega)).mono ?_
        rintro e w10 ⟨rfl, hc10⟩
        rw [Hf1.out]
        have hbW10 := hbW7.non hc10
        have hbV10 := hbV7.non hc10
        have hbG10 := hbG7.non hc10
        have hwin10 := hwin7.non hc10
        have hC10 := hC7.non hc10
        clear hc10 hbW7 hbV7 hbG7 hwin7 hC7
        have x0 := hbW10.cell 0
        have x1 := hbW10.cell 1
        have y0 := hbV10.cell 0
        have y1 := hbV10.cell 1
        have yf0 := hbV10.frozen 0
        have yf1 := hbV10.frozen 1
        simp only [List.getElem?_toArray, List.getElem?_cons_zero, List.getElem?_cons_succ] at x0 x1 y0 y1
        go_wp2_with fail
        clear x0 x1 y0 y1 yf0 yf1
        refine (fenced_any _ (ep + 1) A5 M.length c5 M (ep + 1) 0 1 hwin10.rds (by omega)).mono ?_
        rintro e w11 ⟨rfl, hc11⟩
        rw [Hf2.out]
        have hbW11 := hbW10.non hc11
        have hbV11 := hbV10.non hc11
        have hbG11 := hbG10.non hc11
        have hwin11 := hwin10.non hc11
        have hC11 := hC10.non hc11
        clear hc11 hbW10 hbV10 hbG10 hwin10 hC10
        have x0 := hbW11.cell 0
        have x1 := hbW11.cell 1
        have y0 := hbV11.cell 0
        have y1 := hbV11.cell 1
        have yf0 := hbV11.frozen 0
        have yf1 := hbV11.frozen 1
        simp only [List.getElem?_toArray, List.getElem?_cons_zero, List.getElem?_cons_succ] at x0 x1 y0 y1
        go_wp2_with fail
        clear x0 x1 y0 y1 yf0 yf1
        refine (fenced_any _ (ep + 1) A5 M.length c5 M ep 0 1 hwin11.rds (by omega)).mono ?_
        rintro e w12 ⟨rfl, hc12⟩
        rw [Hf3.out]
        have hbW12 := hbW11.non hc12
        have hbV12 := hbV11.non hc12
        have hbG12 := hbG11.non hc12
        have hwin12 := hwin11.non hc12
        have hC12 := hC11.non hc12
        clear hc12 hbW11 hbV11 hbG11 hwin11 hC11
        have x0 := hbW12.cell 0
        have x1 := hbW12.cell 1
        have y0 := hbV12.cell 0
        have y1 := hbV12.cell 1
        have yf0 := hbV12.frozen 0
        have yf1 := hbV12.frozen 1
        simp only [List.getElem?_toArray, List.getElem?_cons_zero, List.getElem?_cons_succ] at x0 x1 y0 y1
        go_wp2_with fail
        obtain ⟨w13, hw13⟩ : ∃ w13, (w12.setCell ⟨w2.heap.size, 0, none⟩ (.int .i64 (ep + 1))).setCell ⟨w2.heap.size, 1, none⟩ (.slice A5 M.length c5) = w13 := ⟨_, rfl⟩
        have hS13 : Chg (fun b => b = w2.heap.size) w12 w13 := hw13 ▸ ((Chg.refl _ _).set1 0 _).set1 1 _
        have hbV13 : Blk w13 w2.heap.size 26 #[.int .i64 (ep + 1), .slice A5 M.length c5] := hw13 ▸ (hbV12.put 0 (.int .i64 (ep + 1))).put 1 (.slice A5 M.length c5)
        have hbG13 := hbG12.chg hS13 (fun e => hVG e.symm)
        have hwin13 := hwin12.chg hS13 (fun b hb e => hwin12.apart hbV12 (by decide) (by rw [hb, show b = w2.heap.size from e]))
        have hC13 := hC12.trans2 hS13 (fun b e => .inr (by have e : b = w2.heap.size := e; omega))
        rw [hw13]
        clear hw13 hS13 x0 x1 y0 y1 yf0 yf1
        go_roundw
        case rel => exact ⟨k + 1, fun y => decide (y = r) || gone y, ep + 1, M, A5, c5, gs.setIfInBounds r (.bool true), by omega, by go_num, by rw [Hsub.out], Hnext, hbV13, hbG13, by simp [hgs], hgone7, hwin13, hC13⟩
        case measure => simp [intOf]; omega
    · obtain rfl : k = n := by omega
      have hmay := hgoes.out.may hn16
      have hin0 := hgoes.out.in0
      have hle := hgoes.out.le
      have hL : L.length ≤ 16 := by omega
      go_wp2_with fail
      refine (num_any _ _).mono ?_
      rintro e w9 ⟨rfl, rfl⟩
      go_wp2_with fail
      refine (may_any _ ep A L.length c L hwin.rds (by omega)).mono ?_
      rintro e w10 ⟨rfl, hc10⟩
      rw [hmay]
      have hbV10 := hbV.non hc10
      have hwin10 := hwin.non hc10
      have hC10 := hC.non hc10
      clear hc10 hbV hwin hC c0 c1
      have c0 := hbV10.cell 0
      have c1 := hbV10.cell 1
      simp only [List.getElem?_toArray, List.getElem?_cons_zero, List.getElem?_cons_succ] at c0 c1
      go_wp2_with fail
      refine (has_any _ ep A L.length c L 0 1 hwin10.rds (by omega)).mono ?_
      rintro e w11 ⟨rfl, hc11⟩
      rw [hin0]
      have hC11 := hC10.non hc11
      clear hc11 hbV10 hwin10 hC10 c0 c1
      go_wp2_with fail
      go_ret
      exact ⟨rfl, hC11⟩

theorem viewGoes_walk (w : World) (x : Int) (hx : i64 x) (A : Option Addr) (n c : Nat) (e0 : Rd Try.prog w 22 (Value.slice A n c).cells.toList) :
    Calls Try.prog 3 #[.int .i64 x, .slice A n c] w fun e w2 => e = .returned (.bool true) ∧ Chg Non w w2 := by
  obtain ⟨A', n', c', l, h1, h2, h3, h4, h5⟩ := e0.ints Try.underlying22 (by kernel_rfl) Try.underlying3
  simp only [Value.cells, List.cons.injEq, and_true, Value.slice.injEq] at h1
  obtain ⟨rfl, rfl, rfl⟩ := h1
  by_cases hc : 1 ≤ x ∧ x ≤ 16 ∧ n ≤ 50
  · obtain ⟨m, rfl⟩ : ∃ m : Nat, x = m := ⟨x.toNat, by omega⟩
    exact viewGoes_core w m (by omega) (by omega) A n c l h4 h5 hc.2.2
  · have h4 : x < 1 ∨ (1 ≤ x ∧ 16 < x) ∨ (1 ≤ x ∧ x ≤ 16 ∧ 50 < n) := by omega
    unfold maxLen at h3
    unfold i64 at hx
    clear hc h5 e0
    rcases h4 with h | ⟨h, g⟩ | ⟨h, g, f⟩
    all_goals
      go_enter Try.func3, Try.ntmps3
      go_wp2_with fail
      refine (view_alive _).mono ?_
      rintro e w1 ⟨rfl, hc1⟩
      go_wp2_with fail
      go_ret
      exact ⟨rfl, hc1⟩
end Go.Proofs.Ytojlglkefiddnaa
