/-
  gleanerref14.Check.
-/
import Derived.Test.YteinbdifncdaiaaTdTraceCheck
import Derived.Test.YteinbdifncdaiaaTdTraceCount
import Derived.Test.YteinbdifncdaiaaTdRegionM
namespace Go.Proofs.Yteinbdifncdaiaa
open Go.RowKit
set_option linter.unusedVariables false
set_option linter.unusedSimpArgs false

set_option maxRecDepth 100000 in
set_option maxHeartbeats 8000000 in
theorem refChk_any (w : World) (A : Option Addr) (n c : Nat) (E : List Ent) (B : Option Addr) (m d : Nat) (l : List Cm) (hE : EntRow w A n E) (hl : Rds w 3 B m (cv l)) (hn : n ≤ 1000000) (hm : m ≤ 1000000) (hmd : m ≤ d) (hid : ∀ c ∈ l, c.1.size ≤ maxLen) :
    Calls Try.prog 19 #[.slice A n c, .slice B m d] w (CheckPost w E l) := by
  have Hrow := Lib.hid hl
  have Hlen := Lib.hid (flat_eq cellC_len (by decide) hl)
  have Hid2 := Lib.hid hid
  have HE := Lib.hid hE
  clear hl hid hE
  go_enter Try.func19, Try.ntmps19
  go_wp2_with fail
  go_loopw [6] (fun i wr => ∃ k : Nat, k ≤ m ∧ i = .int .i64 k ∧ Hid (∀ j, j < k → fineAt E l j = true) ∧ Chg Non w wr) (fun i _ => m - (intOf i).toNat)
  case atStart => exact ⟨0, Nat.zero_le _, rfl, (fun j h => by omega), Chg.refl _ _⟩
  case round =>
    obtain ⟨k, hk, rfl, hgood, hC⟩ := hrel
    by_cases hlt : k < m
    · obtain ⟨ad, ⟨s, x, y⟩, rfl, hx, hc0, hc⟩ := Hrow.out.getN cellC_len (by decide) hlt
      have a0 : wr.cell? (ad.add (k * 3)) = some (.string s) := hC.cell (hc0 _ rfl) _root_.id
      have a1 : wr.cell? ⟨(ad.add (k * 3)).block, (ad.add (k * 3)).off + 1, none⟩ = some (.int .i64 x) := hC.cell (hc 0 _ rfl) _root_.id
      have a2 : wr.cell? ⟨(ad.add (k * 3)).block, (ad.add (k * 3)).off + 2, none⟩ = some (.int .i64 y) := hC.cell (hc 1 _ rfl) _root_.id
      have A0 : Hid (w.cell? (ad.add (k * 3)) = some (.string s)) := hc0 _ rfl
      have hsz : s.size ≤ maxLen := Hid2.out _ (List.mem_of_getElem? hx)
      have b1 : (0 : Int) ≤ (k : Int) := by omega
      have b2 : (k : Int) < m := by omega
      have hfa := fineAt_of (E := E) hx
      have hst : ids (l.take (k + 1)) = ids (l.take k) ++ [s] := by rw [List.take_add_one, hx]; exact ids_snoc _ _
      have hkl : k < l.length := (List.getElem?_eq_some_iff.1 hx).1
      have hbad : fine E (ids (l.take k)) (s, x, y) = false → chkP E l = ((k : Int), false) := fun h => chk_some hkl hgood.out (by rw [hfa]; exact h)
      have hgo : fine E (ids (l.take k)) (s, x, y) = true → ∀ j, j < k + 1 → fineAt E l j = true := fun h j hj => by
        rcases Nat.lt_or_ge j k with h2 | h2
        · exact hgood.out j h2
        · obtain rfl : j = k := by omega
          rw [hfa]; exact h
      have hf := refFind_any wr A n c E s (HE.out.row.non hC) hn
      have hkd : k ≤ d := by omega
      have hcut : ∀ wx, Chg Non wr wx → Rds wx 3 (some ad) k (cv (l.take k)) := fun wx h => by
        have := ((Hrow.out.non hC).non h).upto (k := k) (by omega)
        rw [show (cv l).take (k * 3) = cv (l.take k) from flat_take cellC_len _ _] at this
        exact this
      have Hbad := Lib.hid hbad
      have Hgo := Lib.hid hgo
      have Hst := Lib.hid hst
      have Hf := Lib.hid hf
      have Hcut := Lib.hid hcut
      have HC := Lib.hid hC
      have qs := fun wx : World => run_slice_hi (P := Try.prog) Try.underlying25 (by kernel_rfl) (kl := .i64) (i := (k : Int)) (k := k) (c := d) rfl hkd (some ad) m wx
      clear hfa hst hbad hgo hgood hx hc0 hc hf hcut hC
      go_wp2_with fail
      refine Hf.out.mono ?_
      rintro e w2 ⟨⟨q, e0, rfl, ho, hq⟩ | ⟨rfl, ho⟩, rfl⟩
      · have hql : q < n := by
          have := (List.getElem?_eq_some_iff.1 hq).1
          have := HE.out.len
          omega
        obtain ⟨ad2, e1, hA2, hq2, y0, y1, y2, y3, y4, y5, y6, y7⟩ := HE.out.row.getE (k := q) hql
        obtain rfl : e0 = e1 := by rw [hq] at hq2; exact Option.some.inj hq2
        subst hA2
        have hid0 : e0.id = s := (oneOf_mem ho).2
        have hfe : fine E (ids (l.take k)) (s, x, y) = (decide (e0.err = x) && decide (e0.val = y) && !inB (ids (l.take k)) s && goes e0 (ids (l.take k))) := by unfold fine; simp only; rw [ho]
        have hmem := (oneOf_mem ho).1
        have hok := HE.out.ok e0 hmem
        have D : decide ((q : Int) < 0) = false := decide_eq_false (by omega)
        have i1 : (0 : Int) ≤ (q : Int) := by omega
        have i2 : (q : Int) < n := by omega
        obtain ⟨r1, hr1⟩ : ∃ r1, (decide (e0.err = x) && decide (e0.val = y)) = r1 := ⟨_, rfl⟩
        obtain ⟨r2, hr2⟩ : ∃ r2, inB (ids (l.take k)) s = r2 := ⟨_, rfl⟩
        rw [hr1, hr2] at hfe
        have hcm : ∀ wx, Chg Non wr wx → Calls Try.prog 32 #[.slice (some ad) k d, .string s] wx fun e w2 => e = .returned (.bool r2) ∧ wx = w2 := fun wx h => by
          rw [← hr2]
          exact refCommitted_any wx (some ad) k d (l.take k) s (Hcut.out wx h) (by omega)
        have hsr : ∀ wx, Calls Try.prog 31 #[.agg #[.int .i64 e0.err, .int .i64 e0.val], .agg #[.int .i64 x, .int .i64 y]] wx fun e w2 => e = .returned (.bool r1) ∧ Chg Non wx w2 := fun wx => by
          rw [← hr1]
          exact refSameRes_any e0.err e0.val x y wx
        have g3 : ∀ wx, Chg Non wr wx → wx.cell? ⟨(ad2.add (q * 8)).block, (ad2.add (q * 8)).off + 3, none⟩ = some (.int .i64 e0.err) := fun wx h => h.cell (HC.out.cell y3 _root_.id) _root_.id
        have g4 : ∀ wx, Chg Non wr wx → wx.cell? ⟨(ad2.add (q * 8)).block, (ad2.add (q * 8)).off + 4, none⟩ = some (.int .i64 e0.val) := fun wx h => h.cell (HC.out.cell y4 _root_.id) _root_.id
        have p0 : ∀ wx, Chg Non wr wx → wx.cell? (ad.add (k * 3)) = some (.string s) := fun wx h => h.cell a0 _root_.id
        have p1 : ∀ wx, Chg Non wr wx → wx.cell? ⟨(ad.add (k * 3)).block, (ad.add (k * 3)).off + 1, none⟩ = some (.int .i64 x) := fun wx h => h.cell a1 _root_.id
        have p2 : ∀ wx, Chg Non wr wx → wx.cell? ⟨(ad.add (k * 3)).block, (ad.add (k * 3)).off + 2, none⟩ = some (.int .i64 y) := fun wx h => h.cell a2 _root_.id
        have Hfe := Lib.hid hfe
        have Hcm := Lib.hid hcm
        have Hsr := Lib.hid hsr
        have Hid0 := Lib.hid hid0
        have Hok := Lib.hid hok
        have Y0 := Lib.hid y0
        have Y7 := Lib.hid y7
        clear ho hq hq2 y0 y1 y2 y3 y4 y5 y6 y7 hfe hcm hsr hid0 hok hmem hr1 hr2 a0 a1 a2
        go_wp2_with fail
        refine y_region _ Non [13, 25] [] (fun _ _ _ _ => True) (fun _ _ _ _ => True) (fun i _ v => v = .bool (if i = 13 then r1 else r2)) (fun _ => True) (by kernel_rfl) (okB_of_F _ (by kernel_rfl)) (fun _ h => h.elim) trivial (fun _ _ _ => trivial) ?_
        repeat (first | (refine y_plain (Non) (wr) rfl rfl (f := ?_) (a2 := ?_) (k2 := ?_) (wanted_none rfl) rfl rfl (fun w hC hG => ?_) ?_ ?_ ?_ rfl; rotate_left 3; (clear hG; first | (go_simp; done) | (go_simp; with_reducible rfl) | (simp [*, go_sem, ↓IntWalk.iteOmega]; done) | (simp [*, go_sem, ↓IntWalk.iteOmega]; with_reducible rfl)); (simp only [Act.put, List.setIfInBounds_toArray, List.set_cons_succ, List.set_cons_zero]; with_reducible exact rfl); ((conv => lhs; simp only [Nat.reduceAdd]); try with_reducible exact rfl)) | (refine y_pass (a2 := ?_) (k2 := ?_) (wanted_no rfl rfl rfl rfl) ?_ ?_ ?_ rfl; rotate_left 2; (simp only [Act.put, List.setIfInBounds_toArray, List.set_cons_succ, List.set_cons_zero]; with_reducible exact rfl); ((conv => lhs; simp only [Nat.reduceAdd]); try with_reducible exact rfl)) | (refine y_plain (Non) (wr) rfl rfl (f := ?_) (a2 := ?_) (k2 := ?_) (wanted_yes rfl rfl rfl) rfl rfl (fun w hC hG => ?_) ?_ ?_ ?_ rfl; rotate_left 3; (clear hG; first | (go_simp; done) | (go_simp; with_reducible rfl) | (simp [*, go_sem, ↓IntWalk.iteOmega]; done) | (simp [*, go_sem, ↓IntWalk.iteOmega]; with_reducible rfl)); (simp only [Act.put, List.setIfInBounds_toArray, List.set_cons_succ, List.set_cons_zero]; with_reducible exact rfl); ((conv => lhs; simp only [Nat.reduceAdd]); try with_reducible exact rfl)))
        refine y_major (Non) (wr) rfl rfl (a2 := ?_) (k2 := ?_) (wanted_yes rfl rfl rfl) rfl (⟨.bool r1, rfl⟩) (fun _ _ _ _ _ _ => trivial) (fun _ _ _ _ => trivial) (fun w hC hG hS => ?_) (fun v => ?_) ?_ (fun v hv => ?_) rfl
        rotate_left 3
        (simp only [Act.put, List.setIfInBounds_toArray, List.set_cons_succ, List.set_cons_zero]; with_reducible exact rfl)
        ((conv => lhs; simp only [Nat.reduceAdd]); try with_reducible exact rfl)
        rotate_left
        · refine settle_of (r2 := .ok (.enter 31 #[.agg #[.int .i64 e0.err, .int .i64 e0.val], .agg #[.int .i64 x, .int .i64 y]]) w) ?_ (settle_enter ((Hsr.out w).mono ?_))
          · (first | (go_simp; done) | (go_simp; rfl))
          · rintro e w9 ⟨rfl, hc9⟩
            exact ⟨_, rfl, rfl, hc9, trivial, trivial⟩
        obtain rfl : v = .bool r1 := hv
        cases r1 with
        | false =>
          have Hres := Lib.hid (Hbad.out (by rw [Hfe.out]; rfl))
          repeat (first | (refine y_plain (Non) (wr) rfl rfl (f := ?_) (a2 := ?_) (k2 := ?_) (wanted_none rfl) rfl rfl (fun w hC hG => ?_) ?_ ?_ ?_ rfl; rotate_left 3; (clear hG; first | (go_simp; done) | (go_simp; with_reducible rfl) | (simp [*, go_sem, ↓IntWalk.iteOmega]; done) | (simp [*, go_sem, ↓IntWalk.iteOmega]; with_reducible rfl)); (simp only [Act.put, List.setIfInBounds_toArray, List.set_cons_succ, List.set_cons_zero]; with_reducible exact rfl); ((conv => lhs; simp only [Nat.reduceAdd]); try with_reducible exact rfl)) | (refine y_pass (a2 := ?_) (k2 := ?_) (wanted_no rfl rfl rfl rfl) ?_ ?_ ?_ rfl; rotate_left 2; (simp only [Act.put, List.setIfInBounds_toArray, List.set_cons_succ, List.set_cons_zero]; with_reducible exact rfl); ((conv => lhs; simp only [Nat.reduceAdd]); try with_reducible exact rfl)) | (refine y_plain (Non) (wr) rfl rfl (f := ?_) (a2 := ?_) (k2 := ?_) (wanted_yes rfl rfl rfl) rfl rfl (fun w hC hG => ?_) ?_ ?_ ?_ rfl; rotate_left 3; (clear hG; first | (go_simp; done) | (go_simp; with_reducible rfl) | (simp [*, go_sem, ↓IntWalk.iteOmega]; done) | (simp [*, go_sem, ↓IntWalk.iteOmega]; with_reducible rfl)); (simp only [Act.put, List.setIfInBounds_toArray, List.set_cons_succ, List.set_cons_zero]; with_reducible exact rfl); ((conv => lhs; simp only [Nat.reduceAdd]); try with_reducible exact rfl)))
          refine y_end Non wr rfl rfl (fun w9 hC9 _ _ => ?_)
          clear g3 g4 p0 p1 p2 D
          go_wp2_with fail
          go_ret2
          exact ⟨by rw [Hres.out]; rfl, HC.out.non hC9⟩
        | true =>
          repeat (first | (refine y_plain (Non) (wr) rfl rfl (f := ?_) (a2 := ?_) (k2 := ?_) (wanted_none rfl) rfl rfl (fun w hC hG => ?_) ?_ ?_ ?_ rfl; rotate_left 3; (clear hG; first | (go_simp; done) | (go_simp; with_reducible rfl) | (simp [*, go_sem, ↓IntWalk.iteOmega]; done) | (simp [*, go_sem, ↓IntWalk.iteOmega]; with_reducible rfl)); (simp only [Act.put, List.setIfInBounds_toArray, List.set_cons_succ, List.set_cons_zero]; with_reducible exact rfl); ((conv => lhs; simp only [Nat.reduceAdd]); try with_reducible exact rfl)) | (refine y_pass (a2 := ?_) (k2 := ?_) (wanted_no rfl rfl rfl rfl) ?_ ?_ ?_ rfl; rotate_left 2; (simp only [Act.put, List.setIfInBounds_toArray, List.set_cons_succ, List.set_cons_zero]; with_reducible exact rfl); ((conv => lhs; simp only [Nat.reduceAdd]); try with_reducible exact rfl)) | (refine y_plain (Non) (wr) rfl rfl (f := ?_) (a2 := ?_) (k2 := ?_) (wanted_yes rfl rfl rfl) rfl rfl (fun w hC hG => ?_) ?_ ?_ ?_ rfl; rotate_left 3; (clear hG; first | (go_simp; done) | (go_simp; with_reducible rfl) | (simp [*, go_sem, ↓IntWalk.iteOmega]; done) | (simp [*, go_sem, ↓IntWalk.iteOmega]; with_reducible rfl)); (simp only [Act.put, List.setIfInBounds_toArray, List.set_cons_succ, List.set_cons_zero]; with_reducible exact rfl); ((conv => lhs; simp only [Nat.reduceAdd]); try with_reducible exact rfl)))
          refine y_major (Non) (wr) rfl rfl (a2 := ?_) (k2 := ?_) (wanted_yes rfl rfl rfl) rfl (⟨.bool r2, rfl⟩) (fun _ _ _ _ _ _ => trivial) (fun _ _ _ _ => trivial) (fun w hC hG hS => ?_) (fun v => ?_) ?_ (fun v hv => ?_) rfl
          rotate_left 3
          (simp only [Act.put, List.setIfInBounds_toArray, List.set_cons_succ, List.set_cons_zero]; with_reducible exact rfl)
          ((conv => lhs; simp only [Nat.reduceAdd]); try with_reducible exact rfl)
          rotate_left
          · refine settle_of (r2 := .ok (.enter 32 #[.slice (some ad) k d, .string s]) w) ?_ (settle_enter ((Hcm.out w hC).mono ?_))
            · (first | (go_simp; done) | (go_simp; rfl))
            · rintro e w9 ⟨rfl, rfl⟩
              exact ⟨_, rfl, rfl, Chg.refl _ _, trivial, trivial⟩
          obtain rfl : v = .bool r2 := hv
          cases r2 with
          | true =>
            have Hres := Lib.hid (Hbad.out (by rw [Hfe.out]; rfl))
            repeat (first | (refine y_plain (Non) (wr) rfl rfl (f := ?_) (a2 := ?_) (k2 := ?_) (wanted_none rfl) rfl rfl (fun w hC hG => ?_) ?_ ?_ ?_ rfl; rotate_left 3; (clear hG; first | (go_simp; done) | (go_simp; with_reducible rfl) | (simp [*, go_sem, ↓IntWalk.iteOmega]; done) | (simp [*, go_sem, ↓IntWalk.iteOmega]; with_reducible rfl)); (simp only [Act.put, List.setIfInBounds_toArray, List.set_cons_succ, List.set_cons_zero]; with_reducible exact rfl); ((conv => lhs; simp only [Nat.reduceAdd]); try with_reducible exact rfl)) | (refine y_pass (a2 := ?_) (k2 := ?_) (wanted_no rfl rfl rfl rfl) ?_ ?_ ?_ rfl; rotate_left 2; (simp only [Act.put, List.setIfInBounds_toArray, List.set_cons_succ, List.set_cons_zero]; with_reducible exact rfl); ((conv => lhs; simp only [Nat.reduceAdd]); try with_reducible exact rfl)) | (refine y_plain (Non) (wr) rfl rfl (f := ?_) (a2 := ?_) (k2 := ?_) (wanted_yes rfl rfl rfl) rfl rfl (fun w hC hG => ?_) ?_ ?_ ?_ rfl; rotate_left 3; (clear hG; first | (go_simp; done) | (go_simp; with_reducible rfl) | (simp [*, go_sem, ↓IntWalk.iteOmega]; done) | (simp [*, go_sem, ↓IntWalk.iteOmega]; with_reducible rfl)); (simp only [Act.put, List.setIfInBounds_toArray, List.set_cons_succ, List.set_cons_zero]; with_reducible exact rfl); ((conv => lhs; simp only [Nat.reduceAdd]); try with_reducible exact rfl)))
            refine y_end Non wr rfl rfl (fun w9 hC9 _ _ => ?_)
            clear g3 g4 p0 p1 p2 D
            go_wp2_with fail
            go_ret2
            exact ⟨by rw [Hres.out]; rfl, HC.out.non hC9⟩
          | false =>
            have hfe2 : fine E (ids (l.take k)) (s, x, y) = goes e0 (ids (l.take k)) := by rw [Hfe.out]; rfl
            have Hfe2 := Lib.hid hfe2
            clear hfe2
            repeat (first | (refine y_plain (Non) (wr) rfl rfl (f := ?_) (a2 := ?_) (k2 := ?_) (wanted_none rfl) rfl rfl (fun w hC hG => ?_) ?_ ?_ ?_ rfl; rotate_left 3; (clear hG; first | (go_simp; done) | (go_simp; with_reducible rfl) | (simp [*, go_sem, ↓IntWalk.iteOmega]; done) | (simp [*, go_sem, ↓IntWalk.iteOmega]; with_reducible rfl)); (simp only [Act.put, List.setIfInBounds_toArray, List.set_cons_succ, List.set_cons_zero]; with_reducible exact rfl); ((conv => lhs; simp only [Nat.reduceAdd]); try with_reducible exact rfl)) | (refine y_pass (a2 := ?_) (k2 := ?_) (wanted_no rfl rfl rfl rfl) ?_ ?_ ?_ rfl; rotate_left 2; (simp only [Act.put, List.setIfInBounds_toArray, List.set_cons_succ, List.set_cons_zero]; with_reducible exact rfl); ((conv => lhs; simp only [Nat.reduceAdd]); try with_reducible exact rfl)) | (refine y_plain (Non) (wr) rfl rfl (f := ?_) (a2 := ?_) (k2 := ?_) (wanted_yes rfl rfl rfl) rfl rfl (fun w hC hG => ?_) ?_ ?_ ?_ rfl; rotate_left 3; (clear hG; first | (go_simp; done) | (go_simp; with_reducible rfl) | (simp [*, go_sem, ↓IntWalk.iteOmega]; done) | (simp [*, go_sem, ↓IntWalk.iteOmega]; with_reducible rfl)); (simp only [Act.put, List.setIfInBounds_toArray, List.set_cons_succ, List.set_cons_zero]; with_reducible exact rfl); ((conv => lhs; simp only [Nat.reduceAdd]); try with_reducible exact rfl)))
            refine y_end Non wr rfl rfl (fun w9 hC9 _ _ => ?_)
            have HC9 := Lib.hid (HC.out.non hC9)
            have HN9 := Lib.hid hC9
            clear g3 g4 p0 p1 p2 D hC9
            go_wp2_with fail
            have hgs : goes e0 (ids (l.take k)) = e0.aw.all (fun k2 => (kid s k2).2 && inB (ids (l.take k)) (kid s k2).1) := by unfold goes; rw [Hid0.out]
            have Hgs := Lib.hid hgs
            clear hgs
            go_loopw [8] (fun i wx => ∃ p : Nat, p ≤ e0.an ∧ i = .int .i64 p ∧ Hid ((e0.aw.take p).all (fun k2 => (kid s k2).2 && inB (ids (l.take k)) (kid s k2).1) = true) ∧ Chg Non w wx) (fun i _ => e0.an - (intOf i).toNat)
            case atStart => exact ⟨0, Nat.zero_le _, rfl, rfl, HC9.out⟩
            case round =>
              obtain ⟨p, hp, rfl, hall, hC⟩ := hrel
              have hanl : e0.aw.length = e0.an := by have h := Hok.out.1.1; simpa [iv] using h
              have ham := Hok.out.2.1
              have b7 : wr.cell? ⟨(ad2.add (q * 8)).block, (ad2.add (q * 8)).off + 7, none⟩ = some (.slice e0.aA e0.an e0.ac) := hC.cell Y7.out _root_.id
              have Hanl := Lib.hid hanl
              clear hanl
              by_cases hpl : p < e0.an
              · obtain ⟨ad3, vk, hA3, hvk, cv3⟩ := (Hok.out.1.non hC).getI hpl
                rw [hA3] at b7
                have hi64 : i64 vk := Hok.out.2.2.2 vk (List.mem_of_getElem? hvk)
                have hkc := fun wx => refKid_any s vk wx hi64 (by unfold maxLen at hsz; omega)
                obtain ⟨kd, ok, hkd⟩ : ∃ kd ok, kid s vk = (kd, ok) := ⟨_, _, rfl⟩
                have hst2 : (e0.aw.take (p + 1)).all (fun k2 => (kid s k2).2 && inB (ids (l.take k)) (kid s k2).1) = (ok && inB (ids (l.take k)) kd) := by
                  rw [List.take_add_one, hvk, List.all_append, hall.out]
                  simp [hkd]
                have hbd : (ok && inB (ids (l.take k)) kd) = false → goes e0 (ids (l.take k)) = false := fun h => by
                  rw [Hgs.out, List.all_eq_false]
                  refine ⟨vk, List.mem_of_getElem? hvk, ?_⟩
                  simp only [hkd]
                  rw [h]
                  simp
                simp only [hkd] at hkc
                have q7 : ∀ wx, Chg Non wr wx → wx.cell? ⟨(ad2.add (q * 8)).block, (ad2.add (q * 8)).off + 7, none⟩ = some (.slice (some ad3) e0.an e0.ac) := fun wx h => h.cell b7 _root_.id
                have q0 : ∀ wx, Chg Non wr wx → wx.cell? (ad.add (k * 3)) = some (.string s) := fun wx h => h.cell (hC.cell A0.out _root_.id) _root_.id
                have q3 : ∀ wx, Chg Non wr wx → wx.cell? (ad3.add p) = some (.int .i64 vk) := fun wx h => h.cell cv3 _root_.id
                have k1 : (0 : Int) ≤ (p : Int) := by omega
                have k2 : (p : Int) < e0.an := by omega
                have Hkc := Lib.hid hkc
                have Hst2 := Lib.hid hst2
                have Hbd := Lib.hid hbd
                have Hcw := Lib.hid hC
                clear hkc hst2 hbd hC hall hvk cv3 hkd hi64 hA3
                go_wp2_with fail
                refine y_region _ Non [13] [] (fun _ _ _ _ => True) (fun _ _ _ _ => True) (fun _ _ v => v = .tuple #[.string kd, .bool ok]) (fun _ => True) (by kernel_rfl) (okB_of_F _ (by kernel_rfl)) (fun _ h => h.elim) trivial (fun _ _ _ => trivial) ?_
                repeat (first | (refine y_plain (Non) (wr) rfl rfl (f := ?_) (a2 := ?_) (k2 := ?_) (wanted_none rfl) rfl rfl (fun w hC hG => ?_) ?_ ?_ ?_ rfl; rotate_left 3; (clear hG; first | (go_simp; done) | (go_simp; with_reducible rfl) | (simp [*, go_sem, ↓IntWalk.iteOmega]; done) | (simp [*, go_sem, ↓IntWalk.iteOmega]; with_reducible rfl)); (simp only [Act.put, List.setIfInBounds_toArray, List.set_cons_succ, List.set_cons_zero]; with_reducible exact rfl); ((conv => lhs; simp only [Nat.reduceAdd]); try with_reducible exact rfl)) | (refine y_pass (a2 := ?_) (k2 := ?_) (wanted_no rfl rfl rfl rfl) ?_ ?_ ?_ rfl; rotate_left 2; (simp only [Act.put, List.setIfInBounds_toArray, List.set_cons_succ, List.set_cons_zero]; with_reducible exact rfl); ((conv => lhs; simp only [Nat.reduceAdd]); try with_reducible exact rfl)) | (refine y_plain (Non) (wr) rfl rfl (f := ?_) (a2 := ?_) (k2 := ?_) (wanted_yes rfl rfl rfl) rfl rfl (fun w hC hG => ?_) ?_ ?_ ?_ rfl; rotate_left 3; (clear hG; first | (go_simp; done) | (go_simp; with_reducible rfl) | (simp [*, go_sem, ↓IntWalk.iteOmega]; done) | (simp [*, go_sem, ↓IntWalk.iteOmega]; with_reducible rfl)); (simp only [Act.put, List.setIfInBounds_toArray, List.set_cons_succ, List.set_cons_zero]; with_reducible exact rfl); ((conv => lhs; simp only [Nat.reduceAdd]); try with_reducible exact rfl)))
                refine y_major (Non) (wr) rfl rfl (a2 := ?_) (k2 := ?_) (wanted_none rfl) rfl (⟨_, rfl⟩) (fun _ _ _ _ _ _ => trivial) (fun _ _ _ _ => trivial) (fun w hC hG hS => ?_) (fun v => ?_) ?_ (fun v hv => ?_) rfl
                rotate_left 3
                (simp only [Act.put, List.setIfInBounds_toArray, List.set_cons_succ, List.set_cons_zero]; with_reducible exact rfl)
                ((conv => lhs; simp only [Nat.reduceAdd]); try with_reducible exact rfl)
                rotate_left
                · refine settle_of (r2 := .ok (.enter 33 #[.string s, .int .i64 vk]) w) ?_ (settle_enter ((Hkc.out w).mono ?_))
                  · (first | (go_simp; done) | (go_simp; rfl))
                  · rintro e w8 ⟨rfl, hc8⟩
                    exact ⟨_, rfl, rfl, hc8, trivial, trivial⟩
                obtain rfl : v = .tuple #[.string kd, .bool ok] := hv
                repeat (first | (refine y_plain (Non) (wr) rfl rfl (f := ?_) (a2 := ?_) (k2 := ?_) (wanted_none rfl) rfl rfl (fun w hC hG => ?_) ?_ ?_ ?_ rfl; rotate_left 3; (clear hG; first | (go_simp; done) | (go_simp; with_reducible rfl) | (simp [*, go_sem, ↓IntWalk.iteOmega]; done) | (simp [*, go_sem, ↓IntWalk.iteOmega]; with_reducible rfl)); (simp only [Act.put, List.setIfInBounds_toArray, List.set_cons_succ, List.set_cons_zero]; with_reducible exact rfl); ((conv => lhs; simp only [Nat.reduceAdd]); try with_reducible exact rfl)) | (refine y_pass (a2 := ?_) (k2 := ?_) (wanted_no rfl rfl rfl rfl) ?_ ?_ ?_ rfl; rotate_left 2; (simp only [Act.put, List.setIfInBounds_toArray, List.set_cons_succ, List.set_cons_zero]; with_reducible exact rfl); ((conv => lhs; simp only [Nat.reduceAdd]); try with_reducible exact rfl)) | (refine y_plain (Non) (wr) rfl rfl (f := ?_) (a2 := ?_) (k2 := ?_) (wanted_yes rfl rfl rfl) rfl rfl (fun w hC hG => ?_) ?_ ?_ ?_ rfl; rotate_left 3; (clear hG; first | (go_simp; done) | (go_simp; with_reducible rfl) | (simp [*, go_sem, ↓IntWalk.iteOmega]; done) | (simp [*, go_sem, ↓IntWalk.iteOmega]; with_reducible rfl)); (simp only [Act.put, List.setIfInBounds_toArray, List.set_cons_succ, List.set_cons_zero]; with_reducible exact rfl); ((conv => lhs; simp only [Nat.reduceAdd]); try with_reducible exact rfl)))
                refine y_end Non wr rfl rfl (fun w8 hC8 _ _ => ?_)
                have HC8 := Lib.hid (Hcw.out.non hC8)
                clear q7 q0 q3 hC8 b7
                cases ok with
                | false =>
                  have Hres := Lib.hid (Hbad.out (by rw [Hfe2.out]; exact Hbd.out rfl))
                  go_wp2_with fail
                  go_ret2
                  exact ⟨by rw [Hres.out]; rfl, HC8.out⟩
                | true =>
                  obtain ⟨r3, hr3⟩ : ∃ r3, inB (ids (l.take k)) kd = r3 := ⟨_, rfl⟩
                  have hcm3 : Calls Try.prog 32 #[.slice (some ad) k d, .string kd] w8 fun e w2 => e = .returned (.bool r3) ∧ w8 = w2 := by
                    rw [← hr3]
                    refine refCommitted_any w8 (some ad) k d (l.take k) kd ?_ (by omega)
                    have := (Hrow.out.non HC8.out).upto (k := k) (by omega)
                    rw [show (cv l).take (k * 3) = cv (l.take k) from flat_take cellC_len _ _] at this
                    exact this
                  have hst3 := Hst2.out
                  have hbd3 := Hbd.out
                  rw [hr3] at hst3 hbd3
                  have Hst3 := Lib.hid hst3
                  have Hbd3 := Lib.hid hbd3
                  have Hcm3 := Lib.hid hcm3
                  clear hst3 hbd3 hcm3 hr3
                  cases r3 with
                  | false =>
                    have Hres := Lib.hid (Hbad.out (by rw [Hfe2.out]; exact Hbd3.out rfl))
                    go_wp2_with fail
                    refine Hcm3.out.mono ?_
                    rintro e w7 ⟨rfl, rfl⟩
                    go_wp2_with fail
                    go_ret2
                    exact ⟨by rw [Hres.out]; rfl, HC8.out⟩
                  | true =>
                    go_wp2_with fail
                    refine Hcm3.out.mono ?_
                    rintro e w7 ⟨rfl, rfl⟩
                    go_wp2_with fail
                    go_roundw
                    case rel => exact ⟨p + 1, by omega, by go_num, Hst3.out, HC8.out⟩
                    case measure => simp [intOf]; omega
              · have hgt : goes e0 (ids (l.take k)) = true := by
                  rw [Hgs.out]
                  have h := hall.out
                  rw [List.take_of_length_le (by have := Hanl.out; omega)] at h
                  exact h
                have Hres := Lib.hid (Hgo.out (by rw [Hfe2.out]; exact hgt))
                clear hgt hall
                go_wp2_with fail
                go_roundw
                case rel => exact ⟨k + 1, by omega, by go_num, Hres.out, hC⟩
                case measure => simp [intOf]; omega
      · have hres : fine E (ids (l.take k)) (s, x, y) = false := by unfold fine; simp only; rw [ho]
        have Hres := Lib.hid (Hbad.out hres)
        clear ho hres
        go_wp2_with fail
        go_quiet (fail)
        have hd : Chg Non wr (wr.drewN nq) := (Chg.refl _ _).drewN nq
        go_wp2_with fail
        go_ret2
        exact ⟨by rw [Hres.out]; rfl, HC.out.non hd⟩
    · have hres : chkP E l = (0, true) := chk_none (fun j hj => hgood.out j (by have := Hlen.out; omega))
      have Hres := Lib.hid hres
      clear hres hgood
      go_wp2_with fail
      go_ret2
      exact ⟨by rw [Hres.out]; rfl, hC⟩
end Go.Proofs.Yteinbdifncdaiaa
