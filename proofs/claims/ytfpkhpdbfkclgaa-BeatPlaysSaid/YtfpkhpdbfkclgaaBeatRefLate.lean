/-
  gleanerref14.Beats: Late.
-/
import Derived.Test.YtfpkhpdbfkclgaaBeatRef
import Derived.Test.YtfpkhpdbfkclgaaBeatLate
namespace Go.Proofs.Ytfpkhpdbfkclgaa
open Go.RowKit
set_option linter.unusedVariables false
set_option linter.unusedSimpArgs false

theorem risen_le (l : List Int) : (risen l).length ≤ l.length := by
  have h2 : ∀ (x : Int) (a : List Int), (riseI x a).length ≤ a.length + 1 := by
    intro x a
    induction a with
    | nil => simp [riseI]
    | cons y a ih2 =>
      unfold riseI
      split
      · simp; exact ih2
      · split <;> simp
  have : ∀ (l a : List Int), (l.foldl (fun a x => riseI x a) a).length ≤ a.length + l.length := by
    intro l
    induction l with
    | nil => intro a; simp
    | cons x l ih =>
      intro a
      have h1 := ih (riseI x a)
      have h3 := h2 x a
      rw [List.foldl_cons, List.length_cons]
      omega
  have := this l []
  simpa [risen] using this
theorem lateK_len (L : List Wt) (t : Int) (k : Nat) : (lateK L t k).length ≤ k := by
  unfold lateK
  refine Nat.le_trans (risen_le _) ?_
  rw [List.length_map]
  exact Nat.le_trans (List.length_filter_le _ _) (List.length_take_le _ _)

set_option maxRecDepth 100000 in
set_option maxHeartbeats 2000000 in
theorem rbLate_any (w : World) (F : Nat → Prop) (g : Nat) (wt : Int) (L : List Wt) (now : Int) (h : Rb w F g wt L) (hok : OkW L) (hL : L.length ≤ 1000000) (hw1 : 1 ≤ wt) (hw2 : wt ≤ 9223372036854775807) :
    Calls Try.prog 19 #[.pointer (some ⟨g, 0, none⟩), .int .i64 now] w (LatePost w L wt now) := by
  obtain ⟨⟨A, n, c, hn, h1, h2, hb, ho, h3, h4, h5⟩, h6⟩ := h
  have Hb := Lib.hid hb
  have Ho := Lib.hid ho
  have Hok := Lib.hid hok
  have hnl : n ≤ 1000000 := by have := hn.out; omega
  unfold maxLen at h2
  have c1 : ∀ wx, Chg Non w wx → wx.cell? ⟨g, 1, none⟩ = some (.slice A n c) := fun wx h => (hb.non h).cell 1
  have C1 := Lib.hid c1
  have hgl := hb.lt
  cases hm : mayB now with
  | false =>
    have hwn := when_any now w
    rw [hm] at hwn
    have Hl : Hid (lateN L wt now = []) := by show _ = _; unfold lateN; rw [hm]; rfl
    have c10 := c1 w (Chg.refl _ _)
    clear hb ho hok hm c1
    go_enter Try.func19, Try.ntmps19
    go_wp2_with fail
    go_loopw [5, 6] (fun v i wr => i = .int .i64 0 ∧ v = .slice none 0 0 ∧ w = wr) (fun _ _ _ => 0)
    case atStart => exact ⟨rfl, rfl, rfl⟩
    case round =>
      obtain ⟨rfl, rfl, rfl⟩ := hrel
      by_cases h0 : 0 < n
      · go_wp2_with fail
        refine hwn.mono ?_
        rintro e w2 ⟨rfl, rfl⟩
        go_wp2_with fail
        go_ret
        exact ⟨_, 0, rfl, by rw [Hl.out]; exact OwnR.nil _ _ _, Chg.refl _ _⟩
      · go_wp2_with fail
        go_ret
        exact ⟨_, 0, rfl, by rw [Hl.out]; exact OwnR.nil _ _ _, Chg.refl _ _⟩
  | true =>
    have hnow := mayB_iff.1 hm
    have Hl : Hid (lateN L wt now = lateW L (now - wt)) := by show _ = _; unfold lateN; rw [hm]; rfl
    have Hwn : Hid (∀ wx, Calls Try.prog 24 #[.int .i64 now] wx fun e w2 => e = .returned (.bool true) ∧ wx = w2) := fun wx => by
      have := when_any now wx
      rw [hm] at this
      exact this
    have i1 : IntKind.i64.wrap (now - wt) = now - wt := IntWalk.i64_in _ (by omega)
    clear hb ho hok hm c1
    go_enter Try.func19, Try.ntmps19
    go_wp2_with fail
    go_loopw [5, 6] (fun v i wr => ∃ (k m : Nat), k ≤ n ∧ i = .int .i64 k ∧ m ≤ k ∧ OwnR rkN wr w.heap.size v m (iv (lateK L (now - wt) k)) ∧ Chg Non w wr) (fun _ i _ => n - (intOf i).toNat)
    case atStart => exact ⟨0, 0, Nat.zero_le _, rfl, Nat.le_refl _, OwnR.nil _ _ _, Chg.refl _ _⟩
    case round =>
      obtain ⟨k, m, hk, rfl, hmk, hout, hC⟩ := hrel
      have c1 := C1.out wr hC
      have hgl2 : g < wr.heap.size := by have := hC.size; omega
      by_cases hlt : k < n
      · obtain ⟨gb, cc, hv, _⟩ := Ho.out.form (by omega)
        injection hv with e1 e2 e3
        subst e1 e3
        have hkl : k < L.length := by have := hn.out; omega
        obtain ⟨x, hx⟩ : ∃ x, L[k]? = some x := ⟨_, List.getElem?_eq_getElem hkl⟩
        have hlf := Hok.out.lf x (List.mem_of_getElem? hx)
        have hat := mayB_iff.1 hlf.2.1
        have hst := lateK_succ (t := now - wt) hx
        have hor := Ho.out.non hC
        have hbr := Hb.out.non hC
        have k0 : wr.cell? ⟨g, 0, none⟩ = some (.int .i64 wt) := hbr.cell 0
        have x0 : wr.cell? ⟨gb, k * 5, none⟩ = some (.int .i64 x.node) := hor.cellN cellW_len hx (j := 0) rfl
        have x2 : wr.cell? ⟨gb, k * 5 + 2, none⟩ = some (.int .i64 x.at_) := hor.cellN cellW_len hx (j := 2) rfl
        have x4 : wr.cell? ⟨gb, k * 5 + 4, none⟩ = some (.bool x.inn) := hor.cellN cellW_len hx (j := 4) rfl
        have b1 : (0 : Int) ≤ (k : Int) := by omega
        have b2 : (k : Int) < n := by omega
        have hlen := lateK_len L (now - wt) k
        have hwn := Hwn.out wr
        cases hi : x.inn with
        | false =>
          rw [hi] at x4
          rw [hi, Bool.false_and, if_neg Bool.false_ne_true] at hst
          rw [← hst] at hout
          clear hst hx hlf hor hbr hi x0
          go_wp2_with fail
          refine hwn.mono ?_
          rintro e w2 ⟨rfl, rfl⟩
          go_wp2_with fail
          go_quiet (fail)
          have hout5 := hout.drewN nq
          have hC6 := hC.drewN nq
          go_wp2_with fail
          go_roundw
          case rel => exact ⟨k + 1, m, by omega, by go_num, by omega, hout5, hC6⟩
          case measure => simp [intOf]; omega
        | true =>
          rw [hi] at x4
          rw [hi, Bool.true_and] at hst
          by_cases ht : x.at_ < now - wt
          · rw [decide_eq_true ht, if_pos rfl] at hst
            have Hst := Lib.hid hst
            have hwt : wt < now := by omega
            clear hst hx hlf hbr hi
            go_wp2_with fail
            refine hwn.mono ?_
            rintro e w2 ⟨rfl, rfl⟩
            go_wp2_with fail
            go_quiet (fail)
            have hout5 := hout.drewN nq
            have hC6 := hC.drewN nq
            obtain ⟨w5, hw5⟩ : ∃ w5, wr.drewN nq = w5 := ⟨_, rfl⟩
            have hC5 : Chg Non wr w5 := hw5 ▸ (Chg.refl _ _).drewN nq
            rw [hw5] at hout5 hC6
            rw [hw5]
            clear hw5
            have x05 : w5.cell? ⟨gb, k * 5, none⟩ = some (.int .i64 x.node) := hC5.cell x0 id
            have c15 := C1.out w5 hC6
            have hgl5 : g < w5.heap.size := by have := hC6.size; omega
            have hs5 := hC6.size
            clear k0 x2 x4 x0 c1 hout hC hor
            go_wp2_with fail
            refine (rise_any w5 w.heap.size _ m _ x.node hout5 hs5 (by omega)).mono ?_
            rintro e w6 ⟨v6, n6, rfl, ho6, hc6⟩
            rw [← Hst.out] at ho6
            have hn6 : n6 ≤ k + 1 := by
              have := ho6.len
              rw [iv_len] at this
              have h9 := lateK_len L (now - wt) (k + 1)
              have e1 : rkN.size = 1 := rfl
              rw [e1] at this
              omega
            have hC7 := hC6.non hc6
            clear hout5 hC5 hC6 hc6 x05 c15
            go_wp2_with fail
            go_roundw
            case rel => exact ⟨k + 1, n6, by omega, by go_num, hn6, ho6, hC7⟩
            case measure => simp [intOf]; omega
          · rw [decide_eq_false ht, if_neg Bool.false_ne_true] at hst
            rw [← hst] at hout
            clear hst hx hlf hor hbr hi x0
            have hcase : wt < now ∨ (now ≤ wt ∧ decide (wt < now) = false) := by
              by_cases h : wt < now
              · exact .inl h
              · exact .inr ⟨by omega, decide_eq_false h⟩
            rcases hcase with hwt | ⟨hwt, hwd⟩
            all_goals
              go_wp2_with fail
              refine hwn.mono ?_
              rintro e w2 ⟨rfl, rfl⟩
              go_wp2_with fail
              go_quiet (fail)
              have hout5 := hout.drewN nq
              have hC6 := hC.drewN nq
              go_wp2_with fail
              go_roundw
              case rel => exact ⟨k + 1, m, by omega, by go_num, by omega, hout5, hC6⟩
              case measure => simp [intOf]; omega
      · have hst : lateK L (now - wt) k = lateW L (now - wt) := lateK_all (by have := hn.out; omega)
        rw [hst] at hout
        clear hst
        go_wp2_with fail
        go_ret
        exact ⟨_, m, rfl, by rw [Hl.out]; exact hout, hC⟩
end Go.Proofs.Ytfpkhpdbfkclgaa
