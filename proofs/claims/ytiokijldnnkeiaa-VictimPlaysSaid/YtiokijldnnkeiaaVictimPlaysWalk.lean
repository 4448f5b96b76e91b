/-
  gleanerlaw20.VictimPlays: the walk.
-/
import Derived.Test.YtiokijldnnkeiaaVictimLaw
import Derived.Test.YtiokijldnnkeiaaSteps
namespace Go.Proofs.Ytiokijldnnkeiaa
open Go.ChangeShapes Go.WideShapes Go.ChangeAt Go.RowKit
set_option linter.unusedVariables false
set_option linter.unusedSimpArgs false

/-- Both pickers, and the third one. -/
def BothAt (w : World) (b1 gp gr : Nat) (t0 : Int) (p : Pk) (q : Pk) : Prop := PkAt w b1 gp p ∧ RAt w gr q t0
theorem BothAt.non {w w2 : World} {b1 gp gr : Nat} {t0 : Int} {p q : Pk} (h : BothAt w b1 gp gr t0 p q) (hc : Chg Non w w2) : BothAt w2 b1 gp gr t0 p q := ⟨h.1.non hc, h.2.non hc⟩

set_option maxRecDepth 100000 in
set_option maxHeartbeats 4000000 in
theorem victimPlays_core (w : World) (nodes self seed tries : Int) (ht : i64 tries) (A2 : Option Addr) (m c2 : Nat) (l : List Bool) (hr : Rds w 1 A2 m (l.map Value.bool)) (hm : m ≤ 200) :
    Calls Try.prog 4 #[.int .i64 nodes, .int .i64 self, .int .i64 seed, .int .i64 tries, .slice A2 m c2] w fun e w2 => e = .returned (.bool true) ∧ Chg Non w w2 := by
  have ha := and32 seed
  go_enter Try.func4, Try.ntmps4
  go_wp2_with fail
  refine (alive_any _).mono ?_
  rintro e w1 ⟨rfl, hc1⟩
  go_wp2_with fail
  refine (new_any w1 nodes self seed tries ht).mono ?_
  rintro e w2 ⟨gp, rfl, hp, hc2⟩
  have s1 := hc1.size
  have hgp1 := hp.low
  go_wp2_with fail
  refine (new_any w2 nodes self seed tries ht).mono ?_
  rintro e w3 ⟨go, rfl, ho, hc3⟩
  have hgp2 := hp.lt
  have hgo1 := ho.low
  have hgo2 := ho.lt
  have hp := hp.non hc3
  have hC := (hc1.non hc2).non hc3
  go_wp2_with fail
  have hW : Chg Non w3 (w3.alloc (.cells #[.int .i64 nodes, .int .i64 self, .int .i64 (seed % 4294967296), .int .i64 tries, .int .i64 0, .int .i64 0] 33)) := (Chg.refl _ _).alloc _
  have hR : RAt (w3.alloc (.cells #[.int .i64 nodes, .int .i64 self, .int .i64 (seed % 4294967296), .int .i64 tries, .int .i64 0, .int .i64 0] 33)) w3.heap.size (newP nodes self seed tries) tries :=
    ⟨Blk.new _ _ _, newP_ok nodes self seed tries ht.2, ht, rfl, rfl, fun _ => rfl⟩
  have hp := hp.non hW
  have ho := ho.non hW
  have hC := hC.non hW
  have h0 : (newP nodes self seed tries).nxt = 0 := rfl
  generalize (w3.alloc (.cells #[.int .i64 nodes, .int .i64 self, .int .i64 (seed % 4294967296), .int .i64 tries, .int .i64 0, .int .i64 0] 33)) = W at hp ho hR hC ⊢
  generalize newP nodes self seed tries = p0 at hp ho hR h0
  obtain ⟨gr, hgr⟩ : ∃ gr, w3.heap.size = gr := ⟨_, rfl⟩
  rw [hgr] at hR hgo2 ⊢
  obtain ⟨b1, hb1⟩ : ∃ b1, w1.heap.size = b1 := ⟨_, rfl⟩
  rw [hb1] at hp hgp1 s1
  obtain ⟨b2, hb2⟩ : ∃ b2, w2.heap.size = b2 := ⟨_, rfl⟩
  rw [hb2] at ho hgp2 hgo1
  have Hr2 := Lib.hid hr
  clear hW hc1 hc2 hc3 hgr hb1 hb2 ha hr
  go_wp2_with fail
  go_loopw [15] (fun i wr => ∃ (k : Nat) (p o : Pk), k ≤ m ∧ i = .int .i64 k ∧ BothAt wr b1 gp gr tries p p ∧ PkAt wr b2 go o ∧ p.nxt ≤ k ∧ o.nxt ≤ 2 * k ∧ Chg Non w wr) (fun i _ => m - (intOf i).toNat)
  case atStart => exact ⟨0, p0, p0, Nat.zero_le _, rfl, ⟨hp, hR⟩, ho, by rw [h0]; exact Int.le_refl _, by rw [h0]; exact Int.le_refl _, hC⟩
  case round =>
    clear hp ho hR h0 hC
    obtain ⟨k, p, o, hk, rfl, ⟨hp, hR⟩, ho, hpn, hon, hC⟩ := hrel
    by_cases hlt : k < m
    · obtain ⟨ad, x, rfl, hx, hcell⟩ := Hr2.out.getMap (f := Value.bool) hlt
      have hcellr : ∀ w5, Chg Non w w5 → w5.cell? (ad.add k) = some (.bool x) := fun w5 h5 => h5.cell hcell id
      have hon1 := o.next_nxt
      have hon2 := o.next.2.next_nxt
      clear hcell hx
      go_wp2_with fail
      refine (next_any wr b2 go o ho (by omega)).mono ?_
      rintro e w5 ⟨rfl, ho5, hc5⟩
      have hp5 := hp.sideP ho (by omega) hc5
      have hR5 := hR.side hc5 (by omega)
      have hC5 := hC.trans2 hc5 fun b e => .inr (by omega)
      clear hp hR hC ho hc5
      go_wp2_with fail
      refine (next_any w5 b2 go _ ho5 (by omega)).mono ?_
      rintro e w6 ⟨rfl, ho6, hc6⟩
      have hp6 := hp5.sideP ho5 (by omega) hc6
      have hR6 := hR5.side hc6 (by omega)
      have hC6 := hC5.trans2 hc6 fun b e => .inr (by omega)
      have hc6 := hcellr w6 hC6
      clear hp5 hR5 hC5 ho5 hcellr
      replace hon2 : o.next.2.next.2.nxt ≤ o.nxt + 2 := by omega
      obtain ⟨o2, he⟩ : ∃ o2, o.next.2.next.2 = o2 := ⟨_, rfl⟩
      rw [he] at ho6 hon2
      clear he hon1
      go_upto_if 55 with (fail)
      go_cut [] from 55 to 60 (fun wx => ∃ q : Pk, BothAt wx b1 gp gr tries q q ∧ PkAt wx b2 go o2 ∧ q.nxt ≤ k ∧ Chg Non w wx)
      case first =>
        cases x with
        | false =>
          go_wp2_with fail
          go_meet
          exact ⟨p, ⟨hp6, hR6⟩, ho6, hpn, hC6⟩
        | true =>
          go_wp2_with fail
          refine (found_any w6 b1 gp p hp6).mono ?_
          rintro e w7 ⟨rfl, hp7, hc7⟩
          have ho7 := ho6.sideP hp6 (by omega) hc7
          have hR7 := hR6.side hc7 (by omega)
          have hC7 := hC6.trans2 hc7 fun b e => .inr (by omega)
          go_wp2_with fail
          refine (refFound_any w7 gr p tries hR7).mono ?_
          rintro e w8 ⟨rfl, hR8, hc8⟩
          have ho8 := ho7.sideR hR7 (by omega) hc8
          have hp8 := hp7.sideR hR7 (by omega) hc8
          have hC8 := hC7.trans2 hc8 fun b e => .inr (by omega)
          go_wp2_with fail
          go_meet
          exact ⟨_, ⟨hp8, hR8⟩, ho8, by show (0:Int) ≤ k; omega, hC8⟩
      case rest =>
        clear hp6 hR6 ho6 hC6 hc6
        obtain ⟨q, ⟨hp, hR⟩, ho, hqn, hC⟩ := hcut
        have hpl := hp.lt
        have hol := ho.lt
        have hRl := hR.lt
        have hq1 := q.next_nxt
        obtain ⟨y, q2, hy⟩ : ∃ y q2, q.next = (y, q2) := ⟨_, _, rfl⟩
        have hq2 : q2.nxt ≤ k + 1 := by rw [hy] at hq1; show q2.nxt ≤ k + 1; have : q2.nxt ≤ q.nxt + 1 := hq1; omega
        have hyy : (y != y) = false := bne_self_eq_false y
        have hnn : (q2.nxt != q2.nxt) = false := bne_self_eq_false _
        have Hy := Lib.hid hy
        clear hy hq1
        go_wp2_with fail
        refine (next_any wc b1 gp q hp (by omega)).mono ?_
        rintro e w7 ⟨rfl, hp7, hc7⟩
        have hR7 := hR.side hc7 (by omega)
        have ho7 := ho.sideP hp (by omega) hc7
        have hC7 := hC.trans2 hc7 fun b e => .inr (by omega)
        rw [Hy.out] at hp7 ⊢
        go_wp2_with fail
        refine (refNext_any w7 gr q tries hR7 (by omega)).mono ?_
        rintro e w8 ⟨rfl, hR8, hc8⟩
        have ho8 := ho7.sideR hR7 (by omega) hc8
        have hp8 := hp7.sideR hR7 (by omega) hc8
        have hC8 := hC7.trans2 hc8 fun b e => .inr (by omega)
        rw [Hy.out] at hR8 ⊢
        clear hp hR ho hC hp7 hR7 ho7 hC7 hc7 hc8
        have h8 := (asked_any w8 b1 gp q2 hp8)
        have h9 := (refAsked_any w8 gr q2 tries hR8)
        go_wp2_with fail
        refine h8.mono ?_
        rintro e w9 ⟨rfl, rfl⟩
        go_wp2_with fail
        refine h9.mono ?_
        rintro e w9 ⟨rfl, rfl⟩
        go_wp2_with fail
        go_roundw
        case rel => exact ⟨k + 1, q2, o2, by omega, by go_num, ⟨hp8, hR8⟩, ho8, by omega, by omega, hC8⟩
        case measure => simp [intOf]; omega
    · go_wp2_with fail
      go_ret
      exact ⟨rfl, hC⟩
theorem victimPlays_walk (w : World) (nodes : Int) (h0 : i64 nodes) (self : Int) (h1 : i64 self) (seed : Int) (h2 : i64 seed) (tries : Int) (h3 : i64 tries) (A2 : Option Addr) (m c2 : Nat) (e1 : Rd Try.prog w 30 (Value.slice A2 m c2).cells.toList) :
    Calls Try.prog 4 #[.int .i64 nodes, .int .i64 self, .int .i64 seed, .int .i64 tries, .slice A2 m c2] w fun e w2 => e = .returned (.bool true) ∧ Chg Non w w2 := by
  obtain ⟨A2', n2', c2', l, g1, g2, g3, g4⟩ := e1.bools Try.underlying30 (by kernel_rfl) Try.underlying4
  simp only [Value.cells, List.cons.injEq, and_true, Value.slice.injEq] at g1
  obtain ⟨rfl, rfl, rfl⟩ := g1
  by_cases hn : m ≤ 200
  · exact victimPlays_core w nodes self seed tries h3 A2 m c2 l g4 hn
  · clear g4 e1
    unfold maxLen at g3
    have h5 : 200 < m := by omega
    clear hn
    go_enter Try.func4, Try.ntmps4
    go_wp2_with fail
    refine (alive_any _).mono ?_
    rintro e w1 ⟨rfl, hc1⟩
    go_wp2_with fail
    go_ret
    exact ⟨rfl, hc1⟩
end Go.Proofs.Ytiokijldnnkeiaa
