/-
  gleanerlaw22.LedgerFirst: the walk.
-/
import Derived.Test.YtdcfnhggedeeiaaLedgerMore
import Derived.Test.YtdcfnhggedeeiaaGet
namespace Go.Proofs.Ytdcfnhggedeeiaa
open Go.RowKit
set_option linter.unusedVariables false
set_option linter.unusedSimpArgs false

theorem and15 (x : Int) : bits .and .i64 x 15 = x % 16 := by
  show IntKind.i64.wrap ((BitVec.ofInt 64 x &&& BitVec.ofInt 64 15).toNat : Int) = _
  rw [BitVec.toNat_and, show (BitVec.ofInt 64 15).toNat = 2 ^ 4 - 1 from rfl, Nat.and_two_pow_sub_one_eq_mod, BitVec.toNat_ofInt, IntKind.wrap_i64]
  omega

def one (r : Nat) : ByteArray := ⟨#[UInt8.ofNat r]⟩
theorem one_vid {r : Nat} (h : r < 16) : vid (one r) = true := by
  unfold vid one
  simp [okD, ByteArray.size]
  omega
/-- No commit bears the name. -/
def noneOf (T : List Cm) (s : ByteArray) : Bool := T.all fun c => decide (c.1 ≠ s)
theorem noneOf_step {T : List Cm} {k : Nat} {c : Cm} {s : ByteArray} (h : T[k]? = some c) : noneOf (T.take (k + 1)) s = (noneOf (T.take k) s && decide (c.1 ≠ s)) := by
  unfold noneOf
  rw [List.take_add_one, h, List.all_append]
  simp
theorem noneOf_atI (T : List Cm) (s : ByteArray) : noneOf T s = (atI T s).isNone := by
  rw [Bool.eq_iff_iff, Option.isNone_iff_eq_none, atI_none]
  simp [noneOf]
theorem str_ne {a b : ByteArray} (h : a ≠ b) : (a.toList == b.toList) = false := by
  rw [beq_eq_false_iff_ne, ByteArray.toList_eq, ByteArray.toList_eq]
  intro e
  apply h
  obtain ⟨⟨a⟩⟩ := a
  obtain ⟨⟨b⟩⟩ := b
  simp at e
  rw [e]

set_option maxRecDepth 100000 in
set_option maxHeartbeats 2000000 in
theorem ledgerFirst_core (w : World) (A : Option Addr) (n c : Nat) (l : List Int) (hr : Rds w 1 A n (iv l)) (hl : ∀ x ∈ l, i64 x) (B : Option Addr) (m d : Nat) (l2 : List Int) (hr2 : Rds w 1 B m (iv l2)) (hl2 : ∀ x ∈ l2, i64 x) (hn : n ≤ 200) (hm : n ≤ m) (hmm : m ≤ 9223372036854775807) :
    Calls Try.prog 3 #[.slice A n c, .slice B m d] w fun e w2 => e = .returned (.bool true) ∧ Chg Non w w2 := by
  have hrk := Lib.hid hr
  have hrk2 := Lib.hid hr2
  clear hr hr2
  go_enter Try.func3, Try.ntmps3
  go_wp2_with fail
  refine (led_alive _).mono ?_
  rintro e w1 ⟨rfl, hc1⟩
  go_wp2_with fail
  refine (ledNew_any _).mono ?_
  rintro e w2 ⟨g, rfl, hL, hc2⟩
  have hC2 := hc1.non hc2
  have hF0 : ∀ b, (w1.heap.size ≤ b ∧ b < w2.heap.size) → w.heap.size ≤ b := fun b h => by have := hc1.size; omega
  clear hc1 hc2
  go_wp2_with fail
  go_loopw [7, 8] (fun v i wr => ∃ (k : Nat) (T : List Cm) (F : Nat → Prop), k ≤ n ∧ i = .int .i64 k ∧ T.length ≤ k ∧ OwnR rkC wr w.heap.size v T.length (cv T) ∧ Led wr F g T ∧ Hid (∀ b, F b → w.heap.size ≤ b) ∧ Hid (∀ b, v.ownBlock = some b → ¬ F b) ∧ Chg Non w wr) (fun _ i _ => n - (intOf i).toNat)
  case atStart => exact ⟨0, [], _, Nat.zero_le _, rfl, Nat.le_refl _, OwnR.nil _ _ _, hL, hF0, (fun b h => by simp [Value.ownBlock] at h), hC2⟩
  case round =>
    clear hL hF0 hC2
    obtain ⟨k, T, F, hk, rfl, hTk, hown, hL, hF, hvF, hC⟩ := hrel
    by_cases hlt : k < n
    · obtain ⟨ad, x, rfl, hx, hcell⟩ := hrk.out.getI hlt
      obtain ⟨ad2, y, rfl, hy, hcell2⟩ := hrk2.out.getI (k := k) (by omega)
      have hxi := hl x (List.mem_of_getElem? hx)
      have hyi := hl2 y (List.mem_of_getElem? hy)
      have hcr := hC.cell hcell id
      have hcr2 := hC.cell hcell2 id
      obtain ⟨r, hr16, hand⟩ : ∃ r : Nat, r < 16 ∧ bits .and .i64 x 15 = (r : Int) := ⟨(x % 16).toNat, by omega, by rw [and15]; omega⟩
      obtain ⟨w3, hw3⟩ : ∃ w3, wr.alloc (.cells #[.int .u8 r] 5) = w3 := ⟨_, rfl⟩
      have hc3 : Chg Non wr w3 := hw3 ▸ (Chg.refl _ _).alloc _
      have q3 : (convert 28 27 (.slice (some ⟨wr.heap.size, 0, none⟩) 1 1)).run Try.prog w3 = .ok (.string (one r)) w3 := by
        have h1 : Rds w3 1 (some ⟨wr.heap.size, 0, none⟩) 1 (bv [UInt8.ofNat r]) := by
          rw [← hw3]
          have := Rds.one wr (.int .u8 r) 5
          simpa [bv, show r % 256 = r by omega] using this
        exact run_string_rds (L := [UInt8.ofNat r]) Try.underlying28 Try.underlying5 Try.underlying27 h1 1
      have hv1 := one_vid hr16
      have hsz1 : (one r).size = 1 := rfl
      have Hv1 := Lib.hid hv1
      have hcr3 := hc3.cell hcr2 id
      have hown3 := hown.non hc3
      have hL3 := hL.non hc3
      have hC3 := hC.non hc3
      generalize one r = s at q3 hv1 hsz1 Hv1
      clear hx hy hcell hcell2 hv1 hown hL hC hc3
      obtain ⟨AT, cT, rfl, hT1, hT2, hTr, hTb⟩ := hown3.open_
      have HTr := Lib.hid hTr
      have HTb := Lib.hid hTb
      clear hTr hTb
      go_wp2_with fail
      go_loop [10, 11] (fun f i => ∃ (q : Nat), q ≤ T.length ∧ i = .int .i64 q ∧ f = .bool (noneOf (T.take q) s)) (fun _ i => T.length - (intOf i).toNat)
      case atStart => exact ⟨0, Nat.zero_le _, rfl, by simp [noneOf]⟩
      case round =>
        obtain ⟨q, hq, rfl, rfl⟩ := hrel
        by_cases hq2 : q < T.length
        · obtain ⟨ad3, cm, rfl, hcm, g0, _⟩ := HTr.out.getN cellC_len (by decide) hq2
          have c0 : w3.cell? (ad3.add (q * 3)) = some (.string cm.1) := g0 _ rfl
          have hst := noneOf_step (s := s) hcm
          by_cases heq : cm.1 = s
          · rw [heq] at hst c0
            have Hst := Lib.hid hst
            clear hst hcm g0 heq
            go_wp2_with fail
            go_round
            case rel => exact ⟨q + 1, by omega, by go_num, by rw [Hst.out]; simp⟩
            case measure => simp [intOf]; omega
          · have e2 := str_ne heq
            rw [decide_eq_true heq, Bool.and_true] at hst
            have Hst := Lib.hid hst
            clear hst hcm g0 heq
            go_wp2_with fail
            go_round
            case rel => exact ⟨q + 1, by omega, by go_num, by rw [Hst.out]⟩
            case measure => simp [intOf]; omega
        · have hqT : q = T.length := by omega
          have hno : noneOf (T.take q) s = (atI T s).isNone := by rw [hqT, List.take_length, noneOf_atI]
          clear hqT
          rw [hno]
          clear hno
          cases hat : atI T s with
          | none =>
            have Hat := Lib.hid hat
            simp only [Option.isNone_none]
            clear hat
            go_wp2_with fail
            refine (ledCommit_yes _ F g T s 0 y (hL3.non ((Chg.refl _ _).alloc _)) Hv1.out Hat.out (by omega)).mono ?_
            rintro e w5 ⟨rfl, F2, hL5, hF2, hc5⟩
            have hbx : Blk w5 w3.heap.size 31 #[.int .i64 0, .int .i64 y] := (Blk.new w3 _ _).chg hc5 (fun e => Nat.lt_irrefl _ (hL3.lt _ e))
            have c0 := hbx.cell 0
            have c1 := hbx.cell 1
            simp only [List.getElem?_toArray, List.getElem?_cons_zero, List.getElem?_cons_succ] at c0 c1
            have hown5 := (hown3.alloc (.cells #[.int .i64 0, .int .i64 y] 31)).chg hc5 hvF.out
            have hs5 := hc5.size
            simp only [World.size_alloc] at hs5 hF2
            have hsz5 : w.heap.size ≤ w5.heap.size := by have := hC3.size; omega
            have hC5 : Chg Non w w5 := (hC3.alloc _).trans2 hc5 (fun b hb => .inr (hF.out b hb))
            clear hbx hc5 hcr3
            go_wp2_with (at_builtin; refine appR1 (K := rkC) rfl (.tmp 69) (.tmp 73) rfl hown5 rfl (cs := #[.string s, .int .i64 0, .int .i64 y]) rfl rfl (cellC_one (s, 0, y)) ?_ ?_ ?_; (next => omega); (next => exact hsz5); intro v6 w6 h6 hc6 ho6)
            go_roundw
            case rel =>
              refine ⟨k + 1, T ++ [(s, 0, y)], F2, by omega, by go_num, by simp; omega, by rw [List.length_append, cv_snoc]; exact h6, hL5.chg hc6 (fun b hb e => ?_), fun b hb => ?_, fun b hb e => ?_, hC5.trans2 hc6 (fun b e => .inr (hown5.lt e).1)⟩
              · rcases hF2 b hb with h | h
                · exact hvF.out b e h
                · have := (hown3.lt e).2; omega
              · rcases hF2 b hb with h | h
                · exact hF.out b h
                · have := hC3.size; omega
              · have hlt5 := hL5.lt b e
                rcases ho6 with h | h
                · rw [h] at hb
                  rcases hF2 b e with h2 | h2
                  · exact hvF.out b hb h2
                  · have := (hown3.lt hb).2; omega
                · rw [h] at hb
                  have := Option.some.inj hb
                  omega
            case measure => simp [intOf]; omega
          | some j =>
            have Hat := Lib.hid hat
            simp only [Option.isNone_some]
            clear hat
            go_wp2_with fail
            refine (ledCommit_no _ F g T s 0 y (hL3.non ((Chg.refl _ _).alloc _)) (by rw [hsz1]; decide) (.inr ⟨j, Hat.out⟩)).mono ?_
            rintro e w5 ⟨rfl, hc5⟩
            have hC5 := (hC3.alloc (.cells #[.int .i64 0, .int .i64 y] 31)).non hc5
            have hL5 := (hL3.non ((Chg.refl _ _).alloc (.cells #[.int .i64 0, .int .i64 y] 31))).non hc5
            have hown5 := (hown3.alloc (.cells #[.int .i64 0, .int .i64 y] 31)).non hc5
            clear hc5 hcr3 hL3 hC3 hown3
            go_wp2_with fail
            go_roundw
            case rel => exact ⟨k + 1, T, F, by omega, by go_num, by omega, hown5, hL5, hF, hvF, hC5⟩
            case measure => simp [intOf]; omega
    · go_wp2_with fail
      refine (ledTrace_any _ F g T hL (by omega)).mono ?_
      rintro e w3 ⟨v3, rfl, hown3, hc3⟩
      obtain ⟨A3, c3, rfl, _, _, hr3, _⟩ := hown3.open_
      obtain ⟨A4, c4, rfl, _, _, hr4, _⟩ := (hown.non hc3).open_
      have hC3 := hC.non hc3
      clear hown3 hown hL hC hc3
      go_wp2_with fail
      refine (commits_same _ A3 _ c3 A4 c4 T hr3 hr4 (by omega)).mono ?_
      rintro e w5 ⟨rfl, hc5⟩
      go_wp2_with fail
      go_ret
      exact ⟨rfl, hC3.non hc5⟩

theorem ledgerFirst_walk (w : World) (A : Option Addr) (n c : Nat) (e0 : Rd Try.prog w 22 (Value.slice A n c).cells.toList) (A2 : Option Addr) (m c2 : Nat) (e1 : Rd Try.prog w 22 (Value.slice A2 m c2).cells.toList) :
    Calls Try.prog 3 #[.slice A n c, .slice A2 m c2] w fun e w2 => e = .returned (.bool true) ∧ Chg Non w w2 := by
  obtain ⟨A', n', c', l, h1, h2, h3, h4, h5⟩ := e0.ints Try.underlying22 (by kernel_rfl) Try.underlying3
  obtain ⟨A2', n2', c2', l2, g1, g2, g3, g4, g5⟩ := e1.ints Try.underlying22 (by kernel_rfl) Try.underlying3
  simp only [Value.cells, List.cons.injEq, and_true, Value.slice.injEq] at h1 g1
  obtain ⟨rfl, rfl, rfl⟩ := h1
  obtain ⟨rfl, rfl, rfl⟩ := g1
  unfold maxLen at h3 g3
  by_cases hn : n ≤ 200 ∧ n ≤ m
  · exact ledgerFirst_core w A n c l h4 h5 A2 m c2 l2 g4 g5 hn.1 hn.2 (by omega)
  · clear h4 h5 g4 g5 e0 e1
    have hn2 : 200 < n ∨ (n ≤ 200 ∧ m < n) := by omega
    clear hn
    rcases hn2 with h | ⟨h, h6⟩
    all_goals
      go_enter Try.func3, Try.ntmps3
      go_wp2_with fail
      refine (led_alive _).mono ?_
      rintro e w1 ⟨rfl, hc1⟩
      go_wp2_with fail
      go_ret
      exact ⟨rfl, hc1⟩
end Go.Proofs.Ytdcfnhggedeeiaa
