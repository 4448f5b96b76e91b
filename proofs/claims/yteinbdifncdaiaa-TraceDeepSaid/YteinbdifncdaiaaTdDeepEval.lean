/-
  gleanerref4.Eval: names rising, what is awaited is there.
-/
import Derived.Test.YteinbdifncdaiaaTdDeepEval0
import Derived.Test.YteinbdifncdaiaaTdTraceSort
namespace Go.Proofs.Yteinbdifncdaiaa
open Go.RowKit
set_option linter.unusedVariables false
set_option linter.unusedSimpArgs false

theorem sub_ok {id : ByteArray} {N E : List Ent} (h : Sub id N) (hp : E.Perm N) (hs : (E.map (·.id)).Pairwise ltS) : EvalOk E :=
  ⟨hs, fun x hx k hk => by
    obtain ⟨h1, y, h2, h3⟩ := h.aw x (hp.mem_iff.1 hx) k hk
    exact ⟨h1, y, hp.mem_iff.2 h2, h3⟩⟩
/-- What Eval answers. -/
def EvPost (w : World) (e : Ending) (w2 : World) : Prop :=
  ∃ v x, e = .returned (.tuple #[v, .int .i64 x]) ∧ Chg Non w w2 ∧ (x = 0 → ∃ A n c E, v = .slice A n c ∧ n ≤ c ∧ EntRow w2 A n E ∧ EvalOk E ∧ 0 < n)
/-- The outer rounds: the first q are in their places. -/
def SoR (w0 : World) (kb ab g en ec : Nat) (N : List Ent) (q : Nat) (wr : World) : Prop :=
  ∃ E, AllAt w0 kb ab E false (some ⟨g, 0, none⟩) en ec wr ∧ E.Perm N ∧ ((E.take q).map (·.id)).Pairwise ltS
/-- The inner rounds: x, on its way down, stands at n. -/
def SiR (w0 : World) (kb ab g en ec : Nat) (N : List Ent) (q n : Nat) (wr : World) : Prop :=
  ∃ A x B C, AllAt w0 kb ab (A ++ x :: (B ++ C)) false (some ⟨g, 0, none⟩) en ec wr ∧ (A ++ x :: (B ++ C)).Perm N ∧ A.length = n ∧ n + B.length = q ∧ ((A ++ B).map (·.id)).Pairwise ltS ∧ ∀ b ∈ B, ltS x.id b.id
theorem SoR.non {w0 : World} {kb ab g en ec : Nat} {N : List Ent} {q : Nat} {wr w2 : World} (h : SoR w0 kb ab g en ec N q wr) (hc : Chg Non wr w2) : SoR w0 kb ab g en ec N q w2 := by
  obtain ⟨E, h1, h2, h3⟩ := h
  exact ⟨E, h1.non hc, h2, h3⟩
theorem SoR.inner {w0 : World} {kb ab g en ec : Nat} {N : List Ent} {q : Nat} {wr : World} (h : SoR w0 kb ab g en ec N q wr) (hq : q < en) : SiR w0 kb ab g en ec N q q wr := by
  obtain ⟨E, h1, h2, h3⟩ := h
  have hl : q < E.length := by have := h1.len; omega
  have e : E.take q ++ E[q] :: ([] ++ E.drop (q + 1)) = E := by rw [List.nil_append, ← List.drop_eq_getElem_cons hl, List.take_append_drop]
  exact ⟨E.take q, E[q], [], E.drop (q + 1), by rw [e]; exact h1, by rw [e]; exact h2, by rw [List.length_take]; omega, rfl, by rw [List.append_nil]; exact h3, fun b hb => nomatch hb⟩
theorem SiR.swap {w0 : World} {kb ab g en ec : Nat} {N : List Ent} {q : Nat} {wr : World} {A : List Ent} {z x : Ent} {B C : List Ent} (h1 : AllAt w0 kb ab ((A ++ [z]) ++ x :: (B ++ C)) false (some ⟨g, 0, none⟩) en ec wr) (h2 : ((A ++ [z]) ++ x :: (B ++ C)).Perm N) (h4 : A.length + 1 + B.length = q) (h5 : (((A ++ [z]) ++ B).map (·.id)).Pairwise ltS) (h6 : ∀ b ∈ B, ltS x.id b.id) (hlt : ltS x.id z.id) :
    SiR w0 kb ab g en ec N q A.length ((wr.setCells g (A.length * 8) (entC x)).setCells g ((A.length + 1) * 8) (entC z)) := by
  have e : (A ++ [z]) ++ x :: (B ++ C) = A ++ z :: x :: (B ++ C) := by simp
  rw [e] at h1 h2
  refine ⟨A, x, z :: B, C, h1.swap, ?_, rfl, by rw [List.length_cons]; omega, by simpa using h5, fun b hb => ?_⟩
  · refine (List.Perm.append_left A ?_).trans h2
    exact List.Perm.swap z x (B ++ C)
  · rcases List.mem_cons.1 hb with rfl | hb
    · exact hlt
    · exact h6 b hb
theorem SiR.done {w0 : World} {kb ab g en ec : Nat} {N : List Ent} {q : Nat} {wr : World} {A : List Ent} {x : Ent} {B C : List Ent} (h1 : AllAt w0 kb ab (A ++ x :: (B ++ C)) false (some ⟨g, 0, none⟩) en ec wr) (h2 : (A ++ x :: (B ++ C)).Perm N) (h4 : A.length + B.length = q) (h5 : ((A ++ B).map (·.id)).Pairwise ltS) (h6 : ∀ b ∈ B, ltS x.id b.id) (hlt : ∀ a ∈ A, ltS a.id x.id) : SoR w0 kb ab g en ec N (q + 1) wr := by
  refine ⟨_, h1, h2, ?_⟩
  have e : (A ++ x :: (B ++ C)).take (q + 1) = A ++ x :: B := by
    have : A ++ x :: (B ++ C) = (A ++ x :: B) ++ C := by simp
    rw [this, List.take_append_of_le_length (by simp; omega)]
    exact List.take_of_length_le (by simp; omega)
  rw [e, List.map_append, List.map_cons, List.pairwise_append]
  rw [List.map_append, List.pairwise_append] at h5
  refine ⟨h5.1, List.pairwise_cons.2 ⟨fun y hy => ?_, h5.2.1⟩, fun a ha y hy => ?_⟩
  · obtain ⟨b, hb, rfl⟩ := List.mem_map.1 hy
    exact h6 b hb
  · obtain ⟨a0, ha0, rfl⟩ := List.mem_map.1 ha
    rcases List.mem_cons.1 hy with rfl | hy
    · exact hlt a0 ha0
    · exact h5.2.2 _ ha _ hy
/-- All ahead of x are smaller, when the last of them is. -/
theorem all_less {A B : List Ent} {z x : Ent} (h5 : (((A ++ [z]) ++ B).map (·.id)).Pairwise ltS) (hlt : ltS z.id x.id) : ∀ a ∈ A ++ [z], ltS a.id x.id := by
  intro a ha
  rcases List.mem_append.1 ha with ha | ha
  · rw [List.map_append, List.map_append, List.pairwise_append, List.pairwise_append] at h5
    exact ltS_trans (h5.1.2.2 _ (List.mem_map_of_mem ha) z.id (by simp)) hlt
  · rw [List.mem_singleton.1 ha]
    exact hlt
set_option maxRecDepth 100000 in
set_option maxHeartbeats 16000000 in
theorem refEval_any (w : World) (j : Jb) (hj : JbAt w j) :
    Calls Try.prog 18 #[.agg (jbC j)] w (EvPost w) := by
  obtain ⟨w1, hw1⟩ : ∃ w1, w.alloc (.cells (jbC j) 48) = w1 := ⟨_, rfl⟩
  have hc1 : Chg Non w w1 := hw1 ▸ (Chg.refl _ _).alloc _
  have hb1 : Blk w1 w.heap.size 48 (jbC j) := hw1 ▸ Blk.new w _ _
  have hkw := refKnow_any w1 j (hj.non hc1)
  have x0 : w1.cell? ⟨w.heap.size, 0, none⟩ = some (.slice j.fA j.fn j.fc) := hb1.cell 0
  have x1 : w1.cell? ⟨w.heap.size, 1, none⟩ = some (.int .i64 j.main) := hb1.cell 1
  have x2 : w1.cell? ⟨w.heap.size, 2, none⟩ = some (.slice j.aA j.an j.ac) := hb1.cell 2
  have x3 : w1.cell? ⟨w.heap.size, 3, none⟩ = some (.int .i64 j.fuel) := hb1.cell 3
  have x4 : w1.cell? ⟨w.heap.size, 4, none⟩ = some (.int .i64 j.tasks) := hb1.cell 4
  have xl := hb1.lt
  have Hkw := Lib.hid hkw
  have Hj := Lib.hid hj
  have Hc1 := Lib.hid hc1
  have Hb1 := Lib.hid hb1
  clear hkw hj hc1 hb1
  unfold jbC at hw1 ⊢
  go_enter Try.func18, Try.ntmps18
  go_wp2_with fail
  refine Hkw.out.mono ?_
  rintro e w2 ⟨v, x, rfl, hc2, hx⟩
  by_cases hx0 : x = 0
  · obtain ⟨kb, dA, dc, R, rfl, hk⟩ := hx hx0
    subst hx0
    obtain ⟨w3, hw3⟩ : ∃ w3, w2.alloc (.cells #[.pointer (some ⟨kb, 0, none⟩), .slice none 0 0, .bool false] 73) = w3 := ⟨_, rfl⟩
    have hc3 : Chg Non w2 w3 := hw3 ▸ (Chg.refl _ _).alloc _
    have hb3 : Blk w3 w2.heap.size 73 #[.pointer (some ⟨kb, 0, none⟩), .slice none 0 0, .bool false] := hw3 ▸ Blk.new w2 _ _
    have hA3 : AllAt w2 kb w2.heap.size [] false none 0 0 w3 := ⟨hc3, hb3, Nat.le_refl _, OwnR.nil _ _ _, fun x hx => nomatch hx⟩
    have hj3 := ((Hj.out.non Hc1.out).non hc2).non hc3
    have hbj3 := (Hb1.out.non hc2).non hc3
    have han : j.an ≤ 1000 := by
      have h1 := hk.ok.args
      have h2 := argsAt_bd hk.ok.argsOk j.main
      have h3 := hj3.args.1
      simp [iv] at h3
      omega
    have hrd : RdF (fun b => b = w2.heap.size ∨ RowB none b) w3 j.aA j.an (iv j.args) := by
      have hlow := fun h0 b hb => ((Hj.out.non Hc1.out).non hc2).args.low (b := b) h0 hb
      refine ⟨hj3.args, fun h0 b hb => ⟨hj3.args.low h0 hb, fun e => ?_⟩⟩
      have := hlow h0 b hb
      rcases e with e | ⟨_, e, _⟩
      · omega
      · cases e
    have hdo := do_any w2 kb j dA dc R hk w2.heap.size 12 ⟨#[]⟩ rfl rfl w3 [] false none 0 0 j.main j.aA j.an j.ac j.args hA3 hrd han
    have y1 : w3.cell? ⟨w.heap.size, 1, none⟩ = some (.int .i64 j.main) := hbj3.cell 1
    have y2 : w3.cell? ⟨w.heap.size, 2, none⟩ = some (.slice j.aA j.an j.ac) := hbj3.cell 2
    have yl := hbj3.lt
    obtain ⟨ab, hab⟩ : ∃ ab, w2.heap.size = ab := ⟨_, rfl⟩
    have hcc : Chg Non w w3 := (Hc1.out.non hc2).non hc3
    rw [hab] at hdo
    have Hdo := Lib.hid hdo
    have Hcc := Lib.hid hcc
    have Hc12 := Lib.hid (Hc1.out.non hc2)
    clear hx hc3 hb3 hA3 hj3 hbj3 han hrd hdo hk x0 x1 x2 x3 x4 xl hw1 hcc hc2
    go_wp2_with fail
    refine Hdo.out.mono ?_
    rintro e w4 ⟨er, va, over, N, eA, en, ec, rfl, hA4, hSub, hov, hC4, hnew, hrow⟩
    rw [List.nil_append] at hA4
    have a1 : w4.cell? ⟨ab, 1, none⟩ = some (.slice eA en ec) := hA4.box.cell 1
    have a2 : w4.cell? ⟨ab, 2, none⟩ = some (.bool over) := hA4.box.cell 2
    have al := hA4.box.lt
    have HA4 := Lib.hid hA4
    have HSub := Lib.hid hSub
    have Hov := Lib.hid hov
    have Hc4 : Hid (Chg Non w w4) := Hc12.out.non hA4.kn
    clear hA4 hSub hov hC4 hnew hrow y1 y2 yl hab hw3
    cases over with
    | true =>
      have Hr : Hid (EvPost w (.returned (.tuple #[.slice none 0 0, .int .i64 30])) w4) := ⟨_, 30, rfl, Hc4.out, fun e => absurd e (by decide)⟩
      go_wp2_with fail
      go_ret2
      exact Hr.out
    | false =>
      obtain ⟨y, hy, _⟩ := Hov.out rfl
      have hn0 : 0 < en := by
        have := HA4.out.len
        have := List.length_pos_of_mem hy
        omega
      obtain ⟨g, c, he, hgc⟩ := HA4.out.own.form hn0
      injection he with he1 he2 he3
      subst he1 he3
      have hnc : en ≤ 9223372036854775807 := by
        have h1 := hgc.1
        have h2 := hgc.2.1
        unfold maxLen at h2
        omega
      have Hgc := Lib.hid hgc.1
      have Hhn0 := Lib.hid hn0
      clear hgc hy he2
      go_wp2_with fail
      go_loopw [7] (fun i wr => ∃ q : Nat, i = .int .i64 q ∧ 1 ≤ q ∧ q ≤ en ∧ SoR w2 kb ab g en ec N q wr) (fun i _ => en - (intOf i).toNat)
      case atStart =>
        refine ⟨1, rfl, Nat.le_refl _, Hhn0.out, N, HA4.out, List.Perm.refl _, ?_⟩
        rcases N with _ | ⟨x, N⟩
        · exact List.Pairwise.nil
        · simp
      case round =>
        obtain ⟨q, rfl, hq1, hqn, hS⟩ := hrel
        have a3 : wr.cell? ⟨ab, 1, none⟩ = some (.slice (some ⟨g, 0, none⟩) en ec) := by
          obtain ⟨E, h1, _⟩ := hS
          exact h1.box.cell 1
        have al3 : ab < wr.heap.size := by
          obtain ⟨E, h1, _⟩ := hS
          exact h1.box.lt
        clear a1 a2 al
        by_cases hlt : q < en
        · have hSi := hS.inner hlt
          have HSi := Lib.hid hSi
          clear hSi hS
          go_wp2_with fail
          clear a3 al3
          go_loopw [8] (fun i wr => ∃ n : Nat, i = .int .i64 n ∧ n ≤ q ∧ SiR w2 kb ab g en ec N q n wr) (fun i _ => (intOf i).toNat)
          case atStart => exact ⟨q, rfl, Nat.le_refl _, HSi.out⟩
          case round =>
            clear HSi
            obtain ⟨n, rfl, hnq, A, x, B, C, h1, h2, h3, h4, h5, h6⟩ := hrel
            rcases List.eq_nil_or_concat A with hA | ⟨A', z, hA⟩
            · subst hA
              obtain rfl : n = 0 := by rw [← h3]; rfl
              have HD := Lib.hid (SiR.done (q := q) h1 h2 (by omega) h5 h6 (fun a ha => nomatch ha))
              clear h1 h2 h4 h5 h6
              go_wp2_with fail
              go_quiet (fail)
              have HD2 := Lib.hid (HD.out.non ((Chg.refl _ _).drewN nq))
              clear HD
              go_wp2_with fail
              go_roundw
              case rel => exact ⟨q + 1, by go_num, by omega, by omega, HD2.out⟩
              case measure => simp [intOf]; omega
            · rw [List.concat_eq_append] at hA
              obtain ⟨n1, rfl⟩ : ∃ n1, n = n1 + 1 := ⟨n - 1, by rw [hA, List.length_append] at h3; simp at h3; omega⟩
              subst hA
              have hn1 : A'.length = n1 := by rw [List.length_append] at h3; simpa using h3
              have hz : ((A' ++ [z]) ++ x :: (B ++ C))[n1]? = some z := by
                rw [List.append_assoc, List.getElem?_append_right (by omega), show n1 - A'.length = 0 by omega]
                rfl
              have hx9 : ((A' ++ [z]) ++ x :: (B ++ C))[n1 + 1]? = some x := by
                rw [List.getElem?_append_right (by simp; omega), show n1 + 1 - (A' ++ [z]).length = 0 by simp; omega]
                rfl
              have ca : wr.cell? ⟨ab, 1, none⟩ = some (.slice (some ⟨g, 0, none⟩) en ec) := h1.box.cell 1
              have al5 := h1.box.lt
              have cz : wr.cell? ⟨g, n1 * 8, none⟩ = some (.string z.id) := h1.own.cellN entC_len hz (j := 0) rfl
              have cx : wr.cell? ⟨g, (n1 + 1) * 8, none⟩ = some (.string x.id) := h1.own.cellN entC_len hx9 (j := 0) rfl
              have i1 : (0 : Int) ≤ (n1 : Int) := by omega
              have i2 : (n1 : Int) < en := by omega
              have i3 : (n1 : Int) + 1 < en := by omega
              have i4 : (0 : Int) < (n1 : Int) + 1 := by omega
              have iv1 : IntKind.i64.wrap (n1 : Int) = (n1 : Int) := by rw [IntKind.wrap_i64]; omega
              have iw : IntKind.i64.wrap ((n1 : Int) + 1 - 1) = (n1 : Int) := by rw [IntKind.wrap_i64]; omega
              have hzx : z.id ≠ x.id := by
                have hnd := (h2.map (·.id)).nodup_iff.2 HSub.out.once
                rw [List.append_assoc, List.map_append, List.nodup_append] at hnd
                have := hnd.2.1
                simp only [List.map_cons, List.singleton_append, List.nodup_cons, List.mem_cons, not_or] at this
                exact this.1.1
              by_cases hl : ltS x.id z.id
              · have tl : Op.bytesLess z.id.toList x.id.toList = false := by rw [lessS]; exact decide_eq_false (ltS_asym hl)
                have te : (z.id.toList == x.id.toList) = false := str_ne hzx
                have H1 := Lib.hid h1
                have Hzz := Lib.hid hz
                have Hzx := Lib.hid hx9
                have HSw := Lib.hid (fun (w5 : World) (h1 : AllAt w2 kb ab ((A' ++ [z]) ++ x :: (B ++ C)) false (some ⟨g, 0, none⟩) en ec w5) => SiR.swap (q := q) h1 h2 (by rw [hn1]; omega) h5 h6 hl)
                have Hn1 := Lib.hid hn1
                clear h1 h2 h3 h4 h5 h6 hz hx9 hzx hl hn1
                go_wp2_with fail
                go_quiet (fail)
                obtain ⟨w5, hw5⟩ : ∃ w5, wr.drewN nq = w5 := ⟨_, rfl⟩
                rw [hw5]
                have H5 := Lib.hid (H1.out.non (show Chg Non wr w5 from hw5 ▸ (Chg.refl _ _).drewN nq))
                have ga : ∀ wx, Chg Non w5 wx → wx.cell? ⟨ab, 1, none⟩ = some (.slice (some ⟨g, 0, none⟩) en ec) := fun wx h => (H5.out.box.non h).cell 1
                have gl : ∀ wx, Chg Non w5 wx → ab < wx.heap.size := fun wx h => (H5.out.box.non h).lt
                have gz0 : ∀ wx, Chg Non w5 wx → wx.cell? ⟨g, n1 * 8, none⟩ = some (.string z.id) := fun wx h => h.cell (H5.out.own.cellN entC_len Hzz.out (j := 0) rfl) _root_.id
                have gz1 : ∀ wx, Chg Non w5 wx → wx.cell? ⟨g, n1 * 8 + 1, none⟩ = some (.int .i64 z.fn) := fun wx h => h.cell (H5.out.own.cellN entC_len Hzz.out (j := 1) rfl) _root_.id
                have gz2 : ∀ wx, Chg Non w5 wx → wx.cell? ⟨g, n1 * 8 + 2, none⟩ = some (.slice z.gA z.gn z.gc) := fun wx h => h.cell (H5.out.own.cellN entC_len Hzz.out (j := 2) rfl) _root_.id
                have gz3 : ∀ wx, Chg Non w5 wx → wx.cell? ⟨g, n1 * 8 + 3, none⟩ = some (.int .i64 z.err) := fun wx h => h.cell (H5.out.own.cellN entC_len Hzz.out (j := 3) rfl) _root_.id
                have gz4 : ∀ wx, Chg Non w5 wx → wx.cell? ⟨g, n1 * 8 + 4, none⟩ = some (.int .i64 z.val) := fun wx h => h.cell (H5.out.own.cellN entC_len Hzz.out (j := 4) rfl) _root_.id
                have gz5 : ∀ wx, Chg Non w5 wx → wx.cell? ⟨g, n1 * 8 + 5, none⟩ = some (.int .i64 z.steps) := fun wx h => h.cell (H5.out.own.cellN entC_len Hzz.out (j := 5) rfl) _root_.id
                have gz6 : ∀ wx, Chg Non w5 wx → wx.cell? ⟨g, n1 * 8 + 6, none⟩ = some (.int .i64 z.kids) := fun wx h => h.cell (H5.out.own.cellN entC_len Hzz.out (j := 6) rfl) _root_.id
                have gz7 : ∀ wx, Chg Non w5 wx → wx.cell? ⟨g, n1 * 8 + 7, none⟩ = some (.slice z.aA z.an z.ac) := fun wx h => h.cell (H5.out.own.cellN entC_len Hzz.out (j := 7) rfl) _root_.id
                have gx0 : ∀ wx, Chg Non w5 wx → wx.cell? ⟨g, (n1 + 1) * 8, none⟩ = some (.string x.id) := fun wx h => h.cell (H5.out.own.cellN entC_len Hzx.out (j := 0) rfl) _root_.id
                have gx1 : ∀ wx, Chg Non w5 wx → wx.cell? ⟨g, (n1 + 1) * 8 + 1, none⟩ = some (.int .i64 x.fn) := fun wx h => h.cell (H5.out.own.cellN entC_len Hzx.out (j := 1) rfl) _root_.id
                have gx2 : ∀ wx, Chg Non w5 wx → wx.cell? ⟨g, (n1 + 1) * 8 + 2, none⟩ = some (.slice x.gA x.gn x.gc) := fun wx h => h.cell (H5.out.own.cellN entC_len Hzx.out (j := 2) rfl) _root_.id
                have gx3 : ∀ wx, Chg Non w5 wx → wx.cell? ⟨g, (n1 + 1) * 8 + 3, none⟩ = some (.int .i64 x.err) := fun wx h => h.cell (H5.out.own.cellN entC_len Hzx.out (j := 3) rfl) _root_.id
                have gx4 : ∀ wx, Chg Non w5 wx → wx.cell? ⟨g, (n1 + 1) * 8 + 4, none⟩ = some (.int .i64 x.val) := fun wx h => h.cell (H5.out.own.cellN entC_len Hzx.out (j := 4) rfl) _root_.id
                have gx5 : ∀ wx, Chg Non w5 wx → wx.cell? ⟨g, (n1 + 1) * 8 + 5, none⟩ = some (.int .i64 x.steps) := fun wx h => h.cell (H5.out.own.cellN entC_len Hzx.out (j := 5) rfl) _root_.id
                have gx6 : ∀ wx, Chg Non w5 wx → wx.cell? ⟨g, (n1 + 1) * 8 + 6, none⟩ = some (.int .i64 x.kids) := fun wx h => h.cell (H5.out.own.cellN entC_len Hzx.out (j := 6) rfl) _root_.id
                have gx7 : ∀ wx, Chg Non w5 wx → wx.cell? ⟨g, (n1 + 1) * 8 + 7, none⟩ = some (.slice x.aA x.an x.ac) := fun wx h => h.cell (H5.out.own.cellN entC_len Hzx.out (j := 7) rfl) _root_.id
                have Hsl := Lib.hid (HSw.out)
                clear ca cz cx al5 hw5
                go_wp2_with fail
                refine y_region_move 14 27 10 Non [] [] (fun _ _ _ _ => True) (fun _ _ _ _ => True) (fun _ _ _ => True) (fun _ => True) (by kernel_rfl) (by kernel_rfl) (by kernel_rfl) (by kernel_rfl) (by decide) rfl rfl rfl rfl rfl rfl rfl (fun _ h => h.elim) trivial (fun _ _ _ => trivial) ?_
                repeat (first | (refine y_plain (Non) (w5) rfl rfl (f := ?_) (a2 := ?_) (k2 := ?_) (wanted_none rfl) rfl rfl (fun w hC hG => ?_) ?_ ?_ ?_ rfl; rotate_left 3; (clear hG; first | (go_simp; done) | (go_simp; with_reducible rfl) | (simp [*, go_sem, ↓IntWalk.iteOmega]; done) | (simp [*, go_sem, ↓IntWalk.iteOmega]; with_reducible rfl)); (simp only [Act.put, List.setIfInBounds_toArray, List.set_cons_succ, List.set_cons_zero]; with_reducible exact rfl); ((conv => lhs; simp only [Nat.reduceAdd]); try with_reducible exact rfl)) | (refine y_pass (a2 := ?_) (k2 := ?_) (wanted_no rfl rfl rfl rfl) ?_ ?_ ?_ rfl; rotate_left 2; (simp only [Act.put, List.setIfInBounds_toArray, List.set_cons_succ, List.set_cons_zero]; with_reducible exact rfl); ((conv => lhs; simp only [Nat.reduceAdd]); try with_reducible exact rfl)) | (refine y_plain (Non) (w5) rfl rfl (f := ?_) (a2 := ?_) (k2 := ?_) (wanted_yes rfl rfl rfl) rfl rfl (fun w hC hG => ?_) ?_ ?_ ?_ rfl; rotate_left 3; (clear hG; first | (go_simp; done) | (go_simp; with_reducible rfl) | (simp [*, go_sem, ↓IntWalk.iteOmega]; done) | (simp [*, go_sem, ↓IntWalk.iteOmega]; with_reducible rfl)); (simp only [Act.put, List.setIfInBounds_toArray, List.set_cons_succ, List.set_cons_zero]; with_reducible exact rfl); ((conv => lhs; simp only [Nat.reduceAdd]); try with_reducible exact rfl)))
                refine y_tail Non w5 rfl rfl rfl (fun w6 hC6 _ _ => ?_)
                have h6 := H5.out.non hC6
                have hth := h6.there (k := n1) (by omega)
                refine last_storeM (.tmp 90) (.tmp 81) rfl (cs := #[.string x.id, .int .i64 x.fn, .slice x.gA x.gn x.gc, .int .i64 x.err, .int .i64 x.val, .int .i64 x.steps, .int .i64 x.kids, .slice x.aA x.an x.ac]) rfl rfl hth (by kernel_rfl) (by simp [Value.oneCell']) ?_
                intro w7 hw7
                have hw7 : w6.setCells g (n1 * 8) (entC x) = w7 := hw7
                simp only [List.drop_succ_cons, List.drop_zero]
                obtain ⟨h7, _⟩ := h6.store (k := A'.length) (z := x) (by simp) (h6.ok x (by simp))
                rw [Hn1.out, hw7] at h7
                have hth2 := h7.there (k := n1 + 1) (by omega)
                have hsw := HSw.out w6 h6
                rw [Hn1.out, hw7] at hsw
                have Hsw := Lib.hid hsw
                clear hsw h7 h6 hth hw7 hC6 ga gl gz0 gz1 gz2 gz3 gz4 gz5 gz6 gz7 gx0 gx1 gx2 gx3 gx4 gx5 gx6 gx7
                go_wp2_with (refine wpList_storeM rfl (.tmp 91) (.tmp 89) rfl (cs := #[.string z.id, .int .i64 z.fn, .slice z.gA z.gn z.gc, .int .i64 z.err, .int .i64 z.val, .int .i64 z.steps, .int .i64 z.kids, .slice z.aA z.an z.ac]) rfl rfl hth2 (by kernel_rfl) (by simp [Value.oneCell']) ?_; intro w8 hw8; have hsw := Hsw.out; rw [show w7.setCells g ((n1 + 1) * 8) (entC z) = w8 from hw8] at hsw; have Hsw8 := Lib.hid hsw; clear hsw hw8 hth2)
                exact ⟨⟨n1, rfl, by omega, Hsw8.out⟩, by simp [intOf]⟩
              · have hzl : ltS z.id x.id := by
                  rcases ltS_tri z.id x.id with h | h | h
                  · exact h
                  · exact absurd h hzx
                  · exact absurd h hl
                have tl : Op.bytesLess z.id.toList x.id.toList = true := by rw [lessS]; exact decide_eq_true hzl
                have te : (z.id.toList == x.id.toList) = false := str_ne hzx
                have HD := Lib.hid (SiR.done (q := q) h1 h2 (by rw [h3]; omega) h5 h6 (all_less h5 hzl))
                clear h1 h2 h3 h4 h5 h6 hz hx9 hzx hl hzl
                go_wp2_with fail
                go_quiet (fail)
                have HD2 := Lib.hid (HD.out.non ((Chg.refl _ _).drewN nq))
                clear HD
                go_wp2_with fail
                go_roundw
                case rel => exact ⟨q + 1, by go_num, by omega, by omega, HD2.out⟩
                case measure => simp [intOf]; omega
        · have hqe : q = en := by omega
          subst hqe
          have Hr : Hid (EvPost w (.returned (.tuple #[.slice (some ⟨g, 0, none⟩) q ec, .int .i64 0])) wr) := by
            obtain ⟨E, h1, h2, h3⟩ := hS
            have hl := h1.len
            rw [List.take_of_length_le (by omega)] at h3
            exact ⟨_, 0, rfl, Hc12.out.non h1.kn, fun _ => ⟨_, q, ec, E, rfl, Hgc.out, ⟨h1.own.rds, fun x hx => (h1.ok x hx).1⟩, sub_ok HSub.out h2 h3, Hhn0.out⟩⟩
          clear hS
          go_wp2_with fail
          go_ret2
          exact Hr.out
  · have hne : (x != 0) = true := bne_iff_ne.2 hx0
    have Hr : Hid (EvPost w (.returned (.tuple #[.slice none 0 0, .int .i64 x])) w2) := ⟨_, x, rfl, Hc1.out.non hc2, fun e => absurd e hx0⟩
    clear hx hx0 hc2
    go_wp2_with fail
    go_ret2
    exact Hr.out
end Go.Proofs.Yteinbdifncdaiaa
