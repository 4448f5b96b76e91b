/-
  gleanerlaw20.VictimAll: the walk.
-/
import Derived.Test.YtiokijldnnkeiaaVictimLaw
import Derived.Test.YtiokijldnnkeiaaSteps
import Derived.Test.YtiokijldnnkeiaaSameInts
namespace Go.Proofs.Ytiokijldnnkeiaa
open Go.ChangeShapes Go.WideShapes Go.ChangeAt Go.RowKit
set_option linter.unusedVariables false
set_option linter.unusedSimpArgs false

/-- What a picker is behind k calls. -/
structure PF (p : Pk) (nodes slf tries k : Int) : Prop where
  n : p.nodes = nodes
  s : p.self = slf
  t : p.tries = tries
  l : p.lines = linesG nodes slf
  x : p.nxt = k
theorem PF.new {nodes self seed tries : Int} (ho : okP nodes self = true) (ht : 0 ≤ tries) : PF (newP nodes self seed tries) nodes self tries 0 := by
  unfold newP
  rw [ho]
  exact ⟨rfl, rfl, by show max 0 tries = tries; omega, rfl, rfl⟩
theorem PF.draw {p : Pk} {nodes self tries k : Int} (h : PF p nodes self tries k) (hk : k < tries) (hn : 2 ≤ nodes) : ∃ y p2, p.next = (y, p2) ∧ 0 ≤ y ∧ y < nodes ∧ y ≠ self ∧ PF p2 nodes self tries (k + 1) := by
  refine ⟨p.pick, _, if_pos (by rw [h.x, h.t]; exact hk), ?_, ?_, ?_, ⟨h.n, h.s, h.t, h.l, by show p.nxt + 1 = _; rw [h.x]⟩⟩
  all_goals
    unfold Pk.pick
    have h1 : 0 ≤ drawN p.st (p.nodes - 1) := Int.emod_nonneg _ (by have := h.n; omega)
    have h2 : drawN p.st (p.nodes - 1) < p.nodes - 1 := Int.emod_lt_of_pos _ (by have := h.n; omega)
    have h3 := h.n
    have h4 := h.s
    split <;> omega
theorem PF.line {p : Pk} {nodes self tries : Int} {j : Nat} {y : Int} (h : PF p nodes self tries (tries + j)) (hy : (linesG nodes self)[j]? = some y) : ∃ p2, p.next = (y, p2) ∧ PF p2 nodes self tries (tries + (j + 1 : Nat)) := by
  have hj := (List.getElem?_eq_some_iff.1 hy).1
  refine ⟨{ p with nxt := p.nxt + 1 }, ?_, ⟨h.n, h.s, h.t, h.l, by show p.nxt + 1 = _; rw [h.x]; omega⟩⟩
  unfold Pk.next
  rw [if_neg (by rw [h.x, h.t]; omega), if_pos (by rw [h.x, h.t, h.l]; omega)]
  rw [show (p.nxt - p.tries).toNat = j from by rw [h.x, h.t]; omega, h.l, hy]
  rfl
theorem PF.none {p : Pk} {nodes self tries : Int} (h : PF p nodes self tries (tries + (linesG nodes self).length)) : p.next = (-1, p) := by
  unfold Pk.next
  rw [if_neg (by rw [h.x, h.t]; omega), if_neg (by rw [h.x, h.t, h.l]; omega)]

theorem PkV.grown {w w2 : World} {base b5 g : Nat} {p : Pk} {A : Option Addr} {n c : Nat} {v : Value} {m : Nat} {xs : List Value} (h : PkV w base g p A n c) (ho : OwnR rkN w b5 v m xs) (hl : ∀ b, (Value.slice A n c).ownBlock = some b → b < b5) (hc : Chg (fun b => v.ownBlock = some b) w w2) : PkV w2 base g p A n c := by
  obtain ⟨h1, h2, h3, h4⟩ := h
  exact ⟨h1.chg hc (ho.apart h1 (by decide)), h2.chg hc fun b hb e => by have := hl b hb; have := (ho.lt e).1; omega, h3, h4⟩

set_option maxRecDepth 100000 in
set_option maxHeartbeats 4000000 in
theorem victimAll_core (w : World) (nodes self seed tries : Int) (v1 : 2 ≤ nodes) (v2 : nodes ≤ 16) (v3 : 0 ≤ self) (v4 : self < nodes) (v5 : 0 ≤ tries) (v6 : tries ≤ 100) :
    Calls Try.prog 3 #[.int .i64 nodes, .int .i64 self, .int .i64 seed, .int .i64 tries] w fun e w2 => e = .returned (.bool true) ∧ Chg Non w w2 := by
  have ho := okP_iff.2 ⟨v1, v2, v3, v4⟩
  have Hnew := Lib.hid (PF.new (seed := seed) ho v5)
  have hll : (linesG nodes self).length ≤ 12 := by
    have h := (newP_ok nodes self 0 0 (by omega)).l
    unfold newP at h
    rw [ho] at h
    exact h
  clear ho
  go_enter Try.func3, Try.ntmps3
  go_wp2_with fail
  refine (alive_any _).mono ?_
  rintro e w1 ⟨rfl, hc1⟩
  go_wp2_with fail
  refine (new_any w1 nodes self seed tries (by constructor <;> omega)).mono ?_
  rintro e w2 ⟨g, rfl, hp, hc2⟩
  have s1 := hc1.size
  have hg1 := hp.low
  have hC := hc1.non hc2
  obtain ⟨b1, hb1⟩ : ∃ b1, w1.heap.size = b1 := ⟨_, rfl⟩
  rw [hb1] at hp hg1 s1
  generalize newP nodes self seed tries = p0 at hp Hnew
  clear hc1 hc2 hb1
  go_wp2_with fail
  go_loopw [11] (fun i wr => ∃ (k : Nat) (p : Pk), (k : Int) ≤ tries ∧ i = .int .i64 k ∧ PkAt wr b1 g p ∧ Hid (PF p nodes self tries k) ∧ Chg Non w wr) (fun i _ => (tries - intOf i).toNat)
  case atStart => exact ⟨0, p0, by omega, rfl, hp, Hnew, hC⟩
  case round =>
    clear hp Hnew hC
    obtain ⟨k, p, hk, rfl, hp, Hpf, hC⟩ := hrel
    by_cases hlt : (k : Int) < tries
    · obtain ⟨y, p2, hy, y1, y2, y3, hpf2⟩ := Hpf.out.draw hlt v1
      have hpn := Hpf.out.x
      have Hy := Lib.hid hy
      have Hpf2 := Lib.hid hpf2
      have t1 : decide (y < 0) = false := decide_eq_false (by omega)
      have t2 : decide (nodes ≤ y) = false := decide_eq_false (by omega)
      have t3 : (y == self) = false := beq_eq_false_iff_ne.2 y3
      clear hy hpf2
      go_wp2_with fail
      refine (next_any wr b1 g p hp (by omega)).mono ?_
      rintro e w5 ⟨rfl, hp5, hc5⟩
      have hC5 := hC.trans2 hc5 fun b e => .inr (by omega)
      rw [Hy.out] at hp5 ⊢
      clear hp hC hc5 Hpf Hy
      go_wp2_with fail
      go_roundw
      case rel => exact ⟨k + 1, p2, by omega, by go_num, hp5, Hpf2, hC5⟩
      case measure => simp [intOf]; omega
    · obtain rfl : tries = k := by omega
      clear hk hlt
      go_wp2_with fail
      refine (refLines_any nodes self wr).mono ?_
      rintro e w5 ⟨vl, n3, rfl, hl5, hc5⟩
      have hp5 := hp.non hc5
      have hC5 := hC.non hc5
      obtain ⟨A3, c3, rfl, hnc3, hcm3, hr3, hob3⟩ := hl5.open_
      have hn3 : n3 = (linesG nodes self).length := hr3.lenMap (f := fun n : Int => .int .i64 n)
      have Hn3 := Lib.hid hn3
      replace hll : n3 ≤ 12 := by omega
      obtain ⟨A, n, c, hpv⟩ := hp5
      have hg5 := hpv.1.lt
      have Hlow : Hid (∀ b, (Value.slice A n c).ownBlock = some b → b < w5.heap.size) := fun b hb => (hpv.2.1.lt hb).2
      have Hr3 : Hid (∀ wx, Chg (fun b => b = g) w5 wx → Rds wx 1 A3 n3 (iv (linesG nodes self))) := fun wx hx => hr3.chg hx fun ad e hb => hl5.apart hpv.1 (by decide) (by rw [hob3 ad e, hb])
      clear hp hC hc5 hl5 hr3 hob3 hn3
      go_wp2_with fail
      go_loopw [14, 15] (fun v i wx => ∃ (j : Nat) (q : Pk), j ≤ n3 ∧ i = .int .i64 j ∧ OwnR rkN wx w5.heap.size v j (iv ((linesG nodes self).take j)) ∧ PkV wx b1 g q A n c ∧ Hid (PF q nodes self k (k + j)) ∧ Chg (fun b => b = g) w5 wx) (fun _ i _ => n3 - (intOf i).toNat)
      case atStart => exact ⟨0, p, by omega, rfl, OwnR.nil _ _ _, hpv, by show PF p nodes self k (k + (0 : Nat)); simpa using Hpf.out, Chg.refl _ _⟩
      case round =>
        clear hpv Hpf
        obtain ⟨j, q, hj, rfl, hown, hqv, Hqf, hC2⟩ := hrel
        have hqn := Hqf.out.x
        by_cases hjn : j < n3
        · obtain ⟨y, hy⟩ : ∃ y, (linesG nodes self)[j]? = some y := ⟨_, List.getElem?_eq_getElem (by have := Hn3.out; omega)⟩
          obtain ⟨q2, hq2, hqf2⟩ := Hqf.out.line hy
          have Hq2 := Lib.hid hq2
          have Hqf2 := Lib.hid hqf2
          have Htk : Hid (iv ((linesG nodes self).take j) ++ [.int .i64 y] = iv ((linesG nodes self).take (j + 1))) := by
            show _ = _
            rw [List.take_add_one, hy]
            simp [iv]
          clear hy hq2 hqf2 Hqf
          go_wp2_with fail
          refine (next_anyV _ b1 g q A n c hqv (by omega)).mono ?_
          rintro e w6 ⟨rfl, hq6, hc6⟩
          have own6 := hown.chg hc6 (fun b hb e => hown.apart hqv.1 (by decide) (by rw [hb, show b = g from e]))
          have hC6 := hC2.trans hc6
          have s6 := hC6.size
          rw [Hq2.out] at hq6 ⊢
          clear hown hqv hC2 hc6 Hq2
          go_wp2_with (at_builtin; refine appR1 (K := rkN) rfl (.tmp 78) (.tmp 81) rfl own6 rfl (cs := #[.int .i64 y]) rfl rfl (iv_one' [y]) ?_ ?_ ?_; (next => omega); (next => exact s6); intro v7 w7 o7 c7 _)
          have hC7 := OwnR.chgApp own6 hC6 (Nat.le_refl _) c7
          have hq7 := hq6.grown own6 Hlow.out c7
          rw [show (#[.int .i64 y] : Array Value).toList = [.int .i64 y] from rfl, Htk.out] at o7
          clear own6 c7 hC6 hq6
          go_roundw
          case rel => exact ⟨j + 1, q2, by omega, by go_num, o7, hq7, Hqf2, hC7⟩
          case measure => simp [intOf]; omega
        · obtain rfl : j = n3 := by omega
          obtain ⟨A7, c7, rfl, _, _, hr7, _⟩ := hown.open_
          have hlf : (linesG nodes self).take j = linesG nodes self := List.take_of_length_le (by have := Hn3.out; omega)
          rw [hlf] at hr7
          have hr8 := Hr3.out _ hC2
          have hLL : (linesG nodes self == linesG nodes self) = true := beq_self_eq_true _
          have Hno : Hid (q.next = (-1, q)) := PF.none (by rw [← Hn3.out]; exact Hqf.out)
          have HC := Lib.hid (hC5.trans2 hC2 fun b e => .inr (by omega))
          have w9 : IntKind.i64.wrap ((k : Int) + j) = k + j := by rw [IntKind.wrap_i64]; omega
          have w10 : ((k : Int) + j == k + j) = true := beq_self_eq_true _
          clear hown hC2 hC5 hlf
          go_wp2_with fail
          refine (sameInts_any _ _ _ _ _ _ _ _ _ hr7 hr8 (by omega)).mono ?_
          rintro e w8 ⟨rfl, hc8⟩
          have hq8 : PkV w8 b1 g q A n c := ⟨hqv.1.non hc8, hqv.2.1.non hc8, hqv.2.2.1, hqv.2.2.2⟩
          have HC8 := Lib.hid (HC.out.non hc8)
          clear hqv hc8 HC hr7 hr8 Hr3
          go_wp2_with fail
          refine (next_anyV _ b1 g q A n c hq8 (by have := Hn3.out; omega)).mono ?_
          rintro e w10 ⟨rfl, hq10, hc10⟩
          have HC10 := Lib.hid (HC8.out.trans2 hc10 fun b e => .inr (by omega))
          rw [Hno.out] at hq10 ⊢
          clear hq8 hc10 HC8
          go_wp2_with fail
          refine (next_anyV _ b1 g q A n c hq10 (by have := Hn3.out; omega)).mono ?_
          rintro e w11 ⟨rfl, hq11, hc11⟩
          have HC11 := Lib.hid (HC10.out.trans2 hc11 fun b e => .inr (by omega))
          rw [Hno.out] at hq11 ⊢
          clear hq10 hc11 HC10
          go_wp2_with fail
          refine (asked_any _ b1 g q ⟨A, n, c, hq11⟩).mono ?_
          rintro e w12 ⟨rfl, rfl⟩
          rw [hqn]
          go_wp2_with fail
          go_ret
          exact ⟨rfl, HC11.out⟩
theorem victimAll_walk (w : World) (nodes : Int) (h0 : i64 nodes) (self : Int) (h1 : i64 self) (seed : Int) (h2 : i64 seed) (tries : Int) (h3 : i64 tries) :
    Calls Try.prog 3 #[.int .i64 nodes, .int .i64 self, .int .i64 seed, .int .i64 tries] w fun e w2 => e = .returned (.bool true) ∧ Chg Non w w2 := by
  by_cases hn : 2 ≤ nodes ∧ nodes ≤ 16 ∧ 0 ≤ self ∧ self < nodes ∧ 0 ≤ tries ∧ tries ≤ 100
  · obtain ⟨k1, k2, k3, k4, k5, k6⟩ := hn
    exact victimAll_core w nodes self seed tries k1 k2 k3 k4 k5 k6
  · have hcase : nodes < 2 ∨ (2 ≤ nodes ∧ 16 < nodes) ∨ (2 ≤ nodes ∧ nodes ≤ 16 ∧ self < 0) ∨ (2 ≤ nodes ∧ nodes ≤ 16 ∧ 0 ≤ self ∧ nodes ≤ self) ∨ (2 ≤ nodes ∧ nodes ≤ 16 ∧ 0 ≤ self ∧ self < nodes ∧ tries < 0) ∨ (2 ≤ nodes ∧ nodes ≤ 16 ∧ 0 ≤ self ∧ self < nodes ∧ 0 ≤ tries ∧ 100 < tries) := by omega
    clear hn
    rcases hcase with k1 | ⟨k1, k2⟩ | ⟨k1, k2, k3⟩ | ⟨k1, k2, k3, k4⟩ | ⟨k1, k2, k3, k4, k5⟩ | ⟨k1, k2, k3, k4, k5, k6⟩
    all_goals
      go_enter Try.func3, Try.ntmps3
      go_wp2_with fail
      refine (alive_any _).mono ?_
      rintro e w1 ⟨rfl, hc1⟩
      go_wp2_with fail
      go_ret
      exact ⟨rfl, hc1⟩
end Go.Proofs.Ytiokijldnnkeiaa
