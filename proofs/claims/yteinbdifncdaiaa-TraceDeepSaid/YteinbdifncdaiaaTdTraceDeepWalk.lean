/-
  gleanerlaw29.TraceDeep: the walk.
-/
import Derived.Test.YteinbdifncdaiaaTdDeepEval
import Derived.Test.YteinbdifncdaiaaTdDeepRefChk
import Derived.Test.YteinbdifncdaiaaTdDeepBig
import Derived.Test.YteinbdifncdaiaaTdRegionM
namespace Go.Proofs.Yteinbdifncdaiaa
open Go.RowKit
set_option linter.unusedVariables false
set_option linter.unusedSimpArgs false

/-- A commit written whole over another one. -/
theorem putC {w : World} {base g n c : Nat} {L : List Cm} (h : OwnR rkC w base (.slice (some ⟨g, 0, none⟩) n c) n (cv L)) {k : Nat} {x : Cm} (y : Cm) (hx : L[k]? = some x) : OwnR rkC (w.setCells g (k * 3) (cellC y)) base (.slice (some ⟨g, 0, none⟩) n c) n (cv (L.set k y)) := by
  have hk := (List.getElem?_eq_some_iff.1 hx).1
  have hg : ∀ z : Cm, (L.set k z)[k]? = some z := fun z => List.getElem?_set_self hk
  obtain ⟨x1, x2, x3⟩ := x
  obtain ⟨y1, y2, y3⟩ := y
  have h0 := OwnR.putN (K := rkC) cellC_len h (y1, x2, x3) hx (j := 0) (u := .string y1) (by decide) rfl
  have h1 := OwnR.putN (K := rkC) cellC_len h0 (y1, y2, x3) (hg _) (j := 1) (u := .int .i64 y2) (by decide) rfl
  rw [List.set_set] at h1
  have h2 := OwnR.putN (K := rkC) cellC_len h1 (y1, y2, y3) (hg _) (j := 2) (u := .int .i64 y3) (by decide) rfl
  rw [List.set_set] at h2
  exact h2
theorem deep_snoc {E : List Ent} {q : Nat} {x : Ent} (hx : E[q]? = some x) : ((E.drop q).reverse).map cmOf = ((E.drop (q + 1)).reverse).map cmOf ++ [cmOf x] := by
  have h9 := List.getElem?_eq_some_iff.1 hx
  rw [List.drop_eq_getElem_cons h9.1, h9.2, List.reverse_cons, List.map_append]
  rfl
set_option maxRecDepth 100000 in
set_option maxHeartbeats 16000000 in
theorem traceDeep_core (w : World) (j : Jb) (hj : JbAt w j) (a b : Int) (ha : i64 a) (hb : i64 b) :
    Calls Try.prog 6 #[.agg (jbC j), .int .i64 a, .int .i64 b] w fun e w2 => e = .returned (.bool true) ∧ Chg Non w w2 := by
  obtain ⟨w1, hw1⟩ : ∃ w1, w.alloc (.cells (jbC j) 48) = w1 := ⟨_, rfl⟩
  have hc1 : Chg Non w w1 := hw1 ▸ (Chg.refl _ _).alloc _
  have hb1 : Blk w1 w.heap.size 48 (jbC j) := hw1 ▸ Blk.new w _ _
  have Hj := Lib.hid hj
  have Hc1 := Lib.hid hc1
  have Hb1 := Lib.hid hb1
  have hbc : ∀ wx, Chg Non w1 wx → Blk wx w.heap.size 48 #[.slice j.fA j.fn j.fc, .int .i64 j.main, .slice j.aA j.an j.ac, .int .i64 j.fuel, .int .i64 j.tasks] := fun wx h => Hb1.out.non h
  have Hbc := Lib.hid hbc
  clear hj hc1 hb1 hbc
  unfold jbC at hw1
  unfold jbC
  go_enter Try.func6, Try.ntmps6
  go_wp2_with fail
  refine (trace_alive _).mono ?_
  rintro e w2 ⟨rfl, hC2⟩
  have hb2 := Hbc.out w2 hC2
  have x0 : w2.cell? ⟨w.heap.size, 0, none⟩ = some (.slice j.fA j.fn j.fc) := hb2.cell 0
  have x1 : w2.cell? ⟨w.heap.size, 1, none⟩ = some (.int .i64 j.main) := hb2.cell 1
  have x2 : w2.cell? ⟨w.heap.size, 2, none⟩ = some (.slice j.aA j.an j.ac) := hb2.cell 2
  have x3 : w2.cell? ⟨w.heap.size, 3, none⟩ = some (.int .i64 j.fuel) := hb2.cell 3
  have x4 : w2.cell? ⟨w.heap.size, 4, none⟩ = some (.int .i64 j.tasks) := hb2.cell 4
  have xl := hb2.lt
  have hbg := refBig_any w2 j ((Hj.out.non Hc1.out).non hC2)
  have Hbg := Lib.hid hbg
  have HC2 := Lib.hid hC2
  clear hbg hC2 hb2 hw1
  go_wp2_with fail
  refine Hbg.out.mono ?_
  rintro e w3 ⟨⟨bm, rfl⟩, hC3⟩
  have HC3 := Lib.hid (HC2.out.non hC3)
  have hb3 := Hbc.out w3 HC3.out
  clear x0 x1 x2 x3 x4 xl hC3
  have x0 : w3.cell? ⟨w.heap.size, 0, none⟩ = some (.slice j.fA j.fn j.fc) := hb3.cell 0
  have x1 : w3.cell? ⟨w.heap.size, 1, none⟩ = some (.int .i64 j.main) := hb3.cell 1
  have x2 : w3.cell? ⟨w.heap.size, 2, none⟩ = some (.slice j.aA j.an j.ac) := hb3.cell 2
  have x3 : w3.cell? ⟨w.heap.size, 3, none⟩ = some (.int .i64 j.fuel) := hb3.cell 3
  have x4 : w3.cell? ⟨w.heap.size, 4, none⟩ = some (.int .i64 j.tasks) := hb3.cell 4
  have xl := hb3.lt
  have hev := refEval_any w3 j ((Hj.out.non Hc1.out).non HC3.out)
  have Hev := Lib.hid hev
  clear hev hb3
  go_wp2_with fail
  refine Hev.out.mono ?_
  rintro e w4 ⟨v, x, rfl, hC4, hx⟩
  have HC4 := Lib.hid ((Hc1.out.non HC3.out).non hC4)
  clear x0 x1 x2 x3 x4 xl hC4
  cases bm with
  | true =>
    clear hx
    go_wp2_with fail
    go_ret
    exact ⟨rfl, HC4.out⟩
  | false =>
  by_cases hx0 : x = 0
  · subst hx0
    obtain ⟨A, n, c, E, rfl, hnc, hE, hO, hn0⟩ := hx rfl
    clear hx
    by_cases hmuch : 100 < n ∨ (n ≤ 100 ∧ a < 0) ∨ (n ≤ 100 ∧ 0 ≤ a ∧ b < 0)
    · clear hE hO hn0
      rcases hmuch with h | ⟨h, h2⟩ | ⟨h, h2, h3⟩
      all_goals
        go_wp2_with fail
        go_ret
        exact ⟨rfl, HC4.out⟩
    · have hn100 : n ≤ 100 := by omega
      have ha0 : 0 ≤ a := by omega
      have hb0 : 0 ≤ b := by omega
      have HE := Lib.hid hE
      have HO := Lib.hid hO
      have Hn0 := Lib.hid hn0
      clear hmuch hE hO
      go_wp2_with fail
      go_loopw [11, 12] (fun v i wr => ∃ q : Nat, q ≤ n ∧ i = .int .i64 ((q : Int) - 1) ∧ OwnR rkC wr w4.heap.size v (n - q) (cv ((E.drop q).reverse.map cmOf)) ∧ Chg Non w4 wr) (fun _ i _ => (intOf i + 1).toNat)
      case atStart => exact ⟨n, Nat.le_refl _, rfl, by rw [Nat.sub_self, List.drop_of_length_le (by have := HE.out.len; omega)]; exact OwnR.nil _ _ _, Chg.refl _ _⟩
      case round =>
        obtain ⟨q, hq, rfl, hO, hC⟩ := hrel
        cases q with
        | succ q =>
          have e0 : (((q + 1 : Nat) : Int) - 1) = (q : Int) := by omega
          rw [e0]
          have hlt : q < n := by omega
          obtain ⟨ad, x, rfl, hx, c0, _, _, c3, c4, _, _, _⟩ := HE.out.row.getE hlt
          have hadl : ad.block < w4.heap.size := by
            have := World.block_lt_of_cell? w4 _ c0
            rwa [block_add] at this
          have hnot : ∀ e : u11.ownBlock = some ad.block, False := fun e => by have := (hO.lt e).1; omega
          have g0 : ∀ wx, Chg (fun g => u11.ownBlock = some g) wr wx → wx.cell? (ad.add (q * 8)) = some (.string x.id) := fun wx h => h.cell (hC.cell c0 _root_.id) (fun e => hnot (by rw [block_add] at e; exact e))
          have g3 : ∀ wx, Chg (fun g => u11.ownBlock = some g) wr wx → wx.cell? ⟨(ad.add (q * 8)).block, (ad.add (q * 8)).off + 3, none⟩ = some (.int .i64 x.err) := fun wx h => h.cell (hC.cell c3 _root_.id) (fun e => hnot (by rw [show (⟨(ad.add (q * 8)).block, (ad.add (q * 8)).off + 3, none⟩ : Addr).block = (ad.add (q * 8)).block from rfl, block_add] at e; exact e))
          have g4 : ∀ wx, Chg (fun g => u11.ownBlock = some g) wr wx → wx.cell? ⟨(ad.add (q * 8)).block, (ad.add (q * 8)).off + 4, none⟩ = some (.int .i64 x.val) := fun wx h => h.cell (hC.cell c4 _root_.id) (fun e => hnot (by rw [show (⟨(ad.add (q * 8)).block, (ad.add (q * 8)).off + 4, none⟩ : Addr).block = (ad.add (q * 8)).block from rfl, block_add] at e; exact e))
          have i0 : (q : Int) ≥ 0 := by omega
          have i1 : (0 : Int) ≤ (q : Int) := by omega
          have i2 : (q : Int) < n := by omega
          have hst := deep_snoc hx
          have Hst := Lib.hid hst
          have HOw := Lib.hid hO
          have HC := Lib.hid hC
          have hnq : n - (q + 1) ≤ 1000 := by omega
          clear hx c0 c3 c4 e0 hst hO hC hnot
          go_wp2_with fail
          refine y_region _ (fun g => u11.ownBlock = some g) [13] [12] (fun _ _ v2 w5 => OwnR rkC w5 w4.heap.size v2 (n - (q + 1) + 1) (cv ((E.drop (q + 1)).reverse.map cmOf) ++ cellC (cmOf x))) (fun _ _ _ _ => True) (fun _ _ _ => True) (fun wx => OwnR rkC wx w4.heap.size u11 (n - (q + 1)) (cv ((E.drop (q + 1)).reverse.map cmOf))) (by kernel_rfl) (okB_of_F _ (by kernel_rfl)) (fun b hb => (HOw.out.lt hb).2) HOw.out (fun _ ob h => h.alloc ob) ?_
          repeat (first | (refine y_plain (fun g => u11.ownBlock = some g) (wr) rfl rfl (f := ?_) (a2 := ?_) (k2 := ?_) (wanted_none rfl) rfl rfl (fun w hC hG => ?_) ?_ ?_ ?_ rfl; rotate_left 3; (clear hG; first | (go_simp; done) | (go_simp; with_reducible rfl) | (simp [*, go_sem, ↓IntWalk.iteOmega]; done) | (simp [*, go_sem, ↓IntWalk.iteOmega]; with_reducible rfl)); (simp only [Act.put, List.setIfInBounds_toArray, List.set_cons_succ, List.set_cons_zero]; with_reducible exact rfl); ((conv => lhs; simp only [Nat.reduceAdd]); try with_reducible exact rfl)) | (refine y_pass (a2 := ?_) (k2 := ?_) (wanted_no rfl rfl rfl rfl) ?_ ?_ ?_ rfl; rotate_left 2; (simp only [Act.put, List.setIfInBounds_toArray, List.set_cons_succ, List.set_cons_zero]; with_reducible exact rfl); ((conv => lhs; simp only [Nat.reduceAdd]); try with_reducible exact rfl)) | (refine y_plain (fun g => u11.ownBlock = some g) (wr) rfl rfl (f := ?_) (a2 := ?_) (k2 := ?_) (wanted_yes rfl rfl rfl) rfl rfl (fun w hC hG => ?_) ?_ ?_ ?_ rfl; rotate_left 3; (clear hG; first | (go_simp; done) | (go_simp; with_reducible rfl) | (simp [*, go_sem, ↓IntWalk.iteOmega]; done) | (simp [*, go_sem, ↓IntWalk.iteOmega]; with_reducible rfl)); (simp only [Act.put, List.setIfInBounds_toArray, List.set_cons_succ, List.set_cons_zero]; with_reducible exact rfl); ((conv => lhs; simp only [Nat.reduceAdd]); try with_reducible exact rfl)))
          refine y_minor (fun g => u11.ownBlock = some g) (wr) rfl rfl (ob := .cells #[.string x.id, .int .i64 x.err, .int .i64 x.val] 34) (kd := some (1, 1)) (a2 := ?_) (k2 := ?_) (wanted_none rfl) rfl rfl (fun w hC hG => ?_) (fun g => ?_) ?_ (fun g => ?_) rfl
          rotate_left 2
          · clear hG; first | (go_simp; done) | (go_simp; rfl)
          (simp only [Act.put, mkv, List.setIfInBounds_toArray, List.set_cons_succ, List.set_cons_zero]; with_reducible exact rfl)
          ((conv => lhs; simp only [Nat.reduceAdd]); try with_reducible exact rfl)
          refine y_major (fun g => u11.ownBlock = some g) (wr) rfl rfl (a2 := ?_) (k2 := ?_) (wanted_none rfl) rfl (⟨undef, trivial⟩) (fun _ _ _ _ _ _ => trivial) (fun v w ob h => OwnR.alloc (K := rkC) h ob) (fun w hC hG hS => ?_) (fun v => ?_) ?_ (fun v hv => ?_) rfl
          rotate_left 3
          (simp only [Act.put, List.setIfInBounds_toArray, List.set_cons_succ, List.set_cons_zero]; with_reducible exact rfl)
          ((conv => lhs; simp only [Nat.reduceAdd]); try with_reducible exact rfl)
          rotate_left
          · have hB := Rds.blockN (m := 1) (size := 3) (show Blk w g 34 #[.string x.id, .int .i64 x.err, .int .i64 x.val] from (hG 12 rfl).2) rfl
            refine settle_appR (K := rkC) (.tmp 60) (.tmp 72) rfl hS rfl hB rfl (cellC_one (cmOf x)) (by omega) (Nat.le_trans HC.out.size hC.size) ?_
            intro v2 w3 h2 h3 h4
            exact ⟨trivial, h3, h2, trivial⟩
          repeat (first | (refine y_plain (fun g => u11.ownBlock = some g) (wr) rfl rfl (f := ?_) (a2 := ?_) (k2 := ?_) (wanted_none rfl) rfl rfl (fun w hC hG => ?_) ?_ ?_ ?_ rfl; rotate_left 3; (clear hG; first | (go_simp; done) | (go_simp; with_reducible rfl) | (simp [*, go_sem, ↓IntWalk.iteOmega]; done) | (simp [*, go_sem, ↓IntWalk.iteOmega]; with_reducible rfl)); (simp only [Act.put, List.setIfInBounds_toArray, List.set_cons_succ, List.set_cons_zero]; with_reducible exact rfl); ((conv => lhs; simp only [Nat.reduceAdd]); try with_reducible exact rfl)) | (refine y_pass (a2 := ?_) (k2 := ?_) (wanted_no rfl rfl rfl rfl) ?_ ?_ ?_ rfl; rotate_left 2; (simp only [Act.put, List.setIfInBounds_toArray, List.set_cons_succ, List.set_cons_zero]; with_reducible exact rfl); ((conv => lhs; simp only [Nat.reduceAdd]); try with_reducible exact rfl)) | (refine y_plain (fun g => u11.ownBlock = some g) (wr) rfl rfl (f := ?_) (a2 := ?_) (k2 := ?_) (wanted_yes rfl rfl rfl) rfl rfl (fun w hC hG => ?_) ?_ ?_ ?_ rfl; rotate_left 3; (clear hG; first | (go_simp; done) | (go_simp; with_reducible rfl) | (simp [*, go_sem, ↓IntWalk.iteOmega]; done) | (simp [*, go_sem, ↓IntWalk.iteOmega]; with_reducible rfl)); (simp only [Act.put, List.setIfInBounds_toArray, List.set_cons_succ, List.set_cons_zero]; with_reducible exact rfl); ((conv => lhs; simp only [Nat.reduceAdd]); try with_reducible exact rfl)))
          refine y_end (fun g => u11.ownBlock = some g) wr rfl rfl (fun w6 hC6 hS6 _ => ?_)
          have hO7 : OwnR rkC w6 w4.heap.size v (n - q) (cv ((E.drop q).reverse.map cmOf)) := by
            rw [Hst.out, cv_snoc, show n - q = n - (q + 1) + 1 by omega]
            exact hS6
          have hC7 : Chg Non w4 w6 := HC.out.trans2 hC6 (fun b e => .inr (HOw.out.lt e).1)
          have HO7 := Lib.hid hO7
          have HC7 := Lib.hid hC7
          clear hO7 hC7 hC6 hS6 g0 g3 g4
          go_wp2_with fail
          go_roundw
          case rel => exact ⟨q, by omega, by go_num, HO7.out, HC7.out⟩
          case measure => first | (simp [intOf]; done) | (simp [intOf]; omega)
        | zero =>
          have e0 : (((0 : Nat) : Int) - 1) = -1 := rfl
          rw [e0]
          rw [List.drop_zero, Nat.sub_zero, show E.reverse.map cmOf = deepL E from rfl] at hO
          obtain ⟨gl, cl, hv, hlc, _, hgl⟩ := hO.form Hn0.out
          subst hv
          have HOw := Lib.hid hO
          have HC := Lib.hid hC
          have Hlc := Lib.hid hlc
          have Hgl := Lib.hid hgl
          clear hO hC hlc hgl
          go_wp2_with fail
          have hids : ∀ c ∈ deepL E, c.1.size ≤ maxLen := by
            intro c hc
            unfold deepL at hc
            obtain ⟨x, hx, rfl⟩ := List.mem_map.1 hc
            exact (HE.out.ok x (List.mem_reverse.1 hx)).2.2.1
          have Hids := Lib.hid hids
          have Hgood := Lib.hid (deep_good HO.out)
          have Hlen := Lib.hid (deepL_len E)
          have Hno : Hid (leftOf E (deepL E) = []) := deep_left E
          have HnE : Hid (n = E.length) := HE.out.len
          clear hids
          refine (check_any wr A n c E (some ⟨gl, 0, none⟩) n cl (deepL E) (HE.out.non HC.out) HOw.out.rds (by omega) (by omega) Hids.out).mono ?_
          rintro e w5 ⟨rfl, k5⟩
          rw [Hgood.out]
          have K5 := Lib.hid k5
          clear k5
          go_wp2_with fail
          refine (whole_any w5 A n c E (some ⟨gl, 0, none⟩) n cl (deepL E) ((HE.out.non HC.out).non K5.out) (HOw.out.rds.non K5.out) (by omega) (by omega) Hids.out).mono ?_
          rintro e w6 ⟨rfl, k6⟩
          have K6 := Lib.hid (K5.out.non k6)
          clear k6
          rw [show wholeB E (deepL E) = true by unfold wholeB; rw [Hgood.out, Hno.out]; rfl]
          go_wp2_with fail
          refine (left_any w6 A n c E (some ⟨gl, 0, none⟩) n cl (deepL E) ((HE.out.non HC.out).non K6.out) (HOw.out.rds.non K6.out) (by omega) (by omega) Hids.out).mono ?_
          rintro e w7 ⟨A7, m7, c7, rfl, hm7, _, k7⟩
          have K7 := Lib.hid (K6.out.non k7)
          obtain rfl : m7 = 0 := by rw [hm7, Hno.out]; rfl
          clear k7 hm7
          have hnz : (n : Int) ≠ 0 := by have := Hn0.out; omega
          obtain ⟨pa, hpa, hpal⟩ : ∃ pa : Nat, a % (n : Int) = pa ∧ pa < n := by
            have h1 := Int.emod_nonneg a hnz
            have h2 := Int.emod_lt_of_pos a (show (0 : Int) < n by have := Hn0.out; omega)
            exact ⟨(a % n).toNat, by omega, by omega⟩
          obtain ⟨pb, hpb, hpbl⟩ : ∃ pb : Nat, b % (n : Int) = pb ∧ pb < n := by
            have h1 := Int.emod_nonneg b hnz
            have h2 := Int.emod_lt_of_pos b (show (0 : Int) < n by have := Hn0.out; omega)
            exact ⟨(b % n).toNat, by omega, by omega⟩
          have hpat : Int.tmod a n = pa := by rw [Int.tmod_eq_emod_of_nonneg ha0]; exact hpa
          have hpbt : Int.tmod b n = pb := by rw [Int.tmod_eq_emod_of_nonneg hb0]; exact hpb
          have hn00 : ((n : Int) == 0) = false := by rw [beq_eq_false_iff_ne]; exact hnz
          obtain ⟨⟨s1, e1, v1⟩, hc1⟩ : ∃ x, (deepL E)[pa]? = some x := ⟨_, List.getElem?_eq_getElem (by rw [Hlen.out, ← HnE.out]; exact hpal)⟩
          obtain ⟨⟨s2, e2, v2⟩, hc2⟩ : ∃ x, (deepL E)[pb]? = some x := ⟨_, List.getElem?_eq_getElem (by rw [Hlen.out, ← HnE.out]; exact hpbl)⟩
          have i1 : (0 : Int) ≤ (pa : Int) := by omega
          have i2 : (pa : Int) < n := by omega
          have i3 : (0 : Int) ≤ (pb : Int) := by omega
          have i4 : (pb : Int) < n := by omega
          have hl7 := HOw.out.rds.non K7.out
          have hone := cv_one (deepL E)
          have Hc1' := Lib.hid hc1
          have Hc2' := Lib.hid hc2
          clear hc1 hc2
          go_wp2_with (first
            | (at_builtin; refine appRn (K := rkC) rfl (.tmp 95) rfl hl7 rfl hone ?_ ?_; (next => omega); intro Am cm w8 o8 d8; obtain ⟨gm, cm2, hAm, hmc, _, hgm⟩ := o8.form Hn0.out; injection hAm with e1' e2' e3'; subst e1' e3'; have hl8 := (HOw.out.non K7.out).non d8; have z0 : w8.cell? ⟨gl, pb * 3, none⟩ = some (.string s2) := hl8.cellN cellC_len Hc2'.out (j := 0) rfl; have z1 : w8.cell? ⟨gl, pb * 3 + 1, none⟩ = some (.int .i64 e2) := hl8.cellN cellC_len Hc2'.out (j := 1) rfl; have z2 : w8.cell? ⟨gl, pb * 3 + 2, none⟩ = some (.int .i64 v2) := hl8.cellN cellC_len Hc2'.out (j := 2) rfl; have hth8 : w8.there gm (pa * 3) 3 := OwnR.there (K := rkC) o8 hpal; have hne : gm ≠ gl := (by have h1 := Hgl.out; have h2 := K7.out.size; omega); have Hne := Lib.hid hne; have HO8 := Lib.hid o8; have Hl8 := Lib.hid hl8; have Hmc := Lib.hid hmc; have K8 := Lib.hid (K7.out.non d8); clear o8 hl8 hne hmc hgm d8)
            | (refine wpList_storeM rfl (.tmp 111) (.tmp 110) rfl (cs := #[.string s2, .int .i64 e2, .int .i64 v2]) rfl rfl hth8 (by kernel_rfl) (by simp [Value.oneCell']) ?_; intro w9 hw9; have hS9 : Chg (fun b => b = gm) w8 w9 := hw9 ▸ Chg.sets (S := fun b => b = gm) (.inl rfl) _ _ _ (Chg.refl _ _); have o9 := putC HO8.out (s2, e2, v2) Hc1'.out; rw [show w8.setCells gm (pa * 3) (cellC (s2, e2, v2)) = w9 from hw9] at o9; have hl9 := Hl8.out.chg hS9 (fun g hg e => Hne.out (by have e : g = gm := e; have h2 : gl = g := (by simpa [Value.ownBlock] using hg); omega)); have z0 : w9.cell? ⟨gl, pa * 3, none⟩ = some (.string s1) := hl9.cellN cellC_len Hc1'.out (j := 0) rfl; have z1 : w9.cell? ⟨gl, pa * 3 + 1, none⟩ = some (.int .i64 e1) := hl9.cellN cellC_len Hc1'.out (j := 1) rfl; have z2 : w9.cell? ⟨gl, pa * 3 + 2, none⟩ = some (.int .i64 v1) := hl9.cellN cellC_len Hc1'.out (j := 2) rfl; have hth9 : w9.there gm (pb * 3) 3 := OwnR.there (K := rkC) o9 hpbl; have HO9 := Lib.hid o9; have Hl9 := Lib.hid hl9; have HS9 := Lib.hid hS9; clear o9 hl9 hS9 hw9 hth8)
            | (refine wpList_storeM rfl (.tmp 118) (.tmp 117) rfl (cs := #[.string s1, .int .i64 e1, .int .i64 v1]) rfl rfl hth9 (by kernel_rfl) (by simp [Value.oneCell']) ?_; intro w10 hw10; have hS10 : Chg (fun b => b = gm) w9 w10 := hw10 ▸ Chg.sets (S := fun b => b = gm) (.inl rfl) _ _ _ (Chg.refl _ _); have HS10 := Lib.hid hS10; have Hw10 := Lib.hid hw10; clear hS10 hw10 hth9))
          have hlM : ((deepL E).set pa (s2, e2, v2))[pb]? = some (((deepL E).set pa (s2, e2, v2))[pb]'(by rw [List.length_set, Hlen.out, ← HnE.out]; exact hpbl)) := List.getElem?_eq_getElem _
          have o10 := putC HO9.out (s1, e1, v1) hlM
          rw [show w9.setCells gm (pb * 3) (cellC (s1, e1, v1)) = w10 from Hw10.out, show ((deepL E).set pa (s2, e2, v2)).set pb (s1, e1, v1) = swapL (deepL E) pa pb (s1, e1, v1) (s2, e2, v2) from rfl] at o10
          have hperm := swap_perm Hc1'.out Hc2'.out
          obtain ⟨M, hM⟩ : ∃ M, swapL (deepL E) pa pb (s1, e1, v1) (s2, e2, v2) = M := ⟨_, rfl⟩
          rw [hM] at o10 hperm
          have hgm : wr.heap.size ≤ gm := by
            have h1 := (HO8.out.lt (g := gm) rfl).1
            have h2 := K7.out.size
            omega
          have k10 : Chg Non wr w10 := (K8.out.trans2 HS9.out (fun b e => .inr (by have e : b = gm := e; omega))).trans2 HS10.out (fun b e => .inr (by have e : b = gm := e; omega))
          have hidM : ∀ c ∈ M, c.1.size ≤ maxLen := fun c hc => Hids.out c (hperm.mem_iff.2 hc)
          have O10 := Lib.hid o10
          have K10 := Lib.hid k10
          have HidM := Lib.hid hidM
          have Hperm := Lib.hid hperm
          obtain ⟨ci, cb, hcc⟩ : ∃ ci cb, chkP E M = (ci, cb) := ⟨_, _, rfl⟩
          have Hcc := Lib.hid hcc
          clear o10 k10 hidM hperm hM hlM hcc z0 z1 z2 hl7 hone hgm
          refine (check_any w10 A n c E (some ⟨gm, 0, none⟩) n cm M ((HE.out.non HC.out).non K10.out) O10.out.rds (by omega) (by omega) HidM.out).mono ?_
          rintro e w11 ⟨rfl, k11⟩
          rw [Hcc.out]
          have K11 := Lib.hid k11
          clear k11
          go_wp2_with fail
          refine (refChk_any w11 A n c E (some ⟨gm, 0, none⟩) n cm M (((HE.out.non HC.out).non K10.out).non K11.out) (O10.out.non K11.out).rds (by omega) (by omega) Hmc.out HidM.out).mono ?_
          rintro e w12 ⟨rfl, k12⟩
          rw [Hcc.out]
          have K12 := Lib.hid (K11.out.non k12)
          have hcb : (cb == cb) = true := beq_self_eq_true _
          have hci : (ci == ci) = true := beq_self_eq_true _
          clear k12
          go_wp2_with fail
          refine (sameC_p w12 (some ⟨gl, 0, none⟩) n cl (some ⟨gm, 0, none⟩) n cm (deepL E) M ((HOw.out.non K10.out).non K12.out).rds (O10.out.non K12.out).rds (by omega) (by omega) true ⟨fun _ => Hperm.out, fun _ => rfl⟩).mono ?_
          rintro e w13 ⟨rfl, k13⟩
          go_wp2_with fail
          go_ret
          exact ⟨rfl, (((HC4.out.non HC.out).non K10.out).non K12.out).non k13⟩
  · have hne : (x != 0) = true := bne_iff_ne.2 hx0
    clear hx hx0
    go_wp2_with fail
    go_ret
    exact ⟨rfl, HC4.out⟩
theorem traceDeep_walk (w : World) (S : Array Value) (e0 : Rd Try.prog w 48 (Value.agg S).cells.toList) (a : Int) (ha : i64 a) (b : Int) (hb : i64 b) :
    Calls Try.prog 6 #[.agg S, .int .i64 a, .int .i64 b] w fun e w2 => e = .returned (.bool true) ∧ Chg Non w w2 := by
  obtain ⟨j, rfl, hj⟩ := e0.job
  exact traceDeep_core w j hj a b ha hb
end Go.Proofs.Yteinbdifncdaiaa
