/-
  What the laws of chapter 10 begin with: the document's example; frames as they come in.
-/
import Derived.Test.YtdllocgonjbmlaaFrameReadRef
import Derived.Test.YtdllocgonjbmlaaRdRows
namespace Go.Proofs.Ytdllocgonjbmlaa
open Go.ChangeShapes Go.WideShapes Go.ChangeAt Go.RowKit Go.Deep
set_option linter.unusedVariables false
set_option linter.unusedSimpArgs false

theorem Rd.frame {w : World} {S : Array Value} (h : Rd Try.prog w 24 (Value.agg S).cells.toList) :
    ∃ (f : Fr) (A : Option Addr) (n c : Nat), S = frC f A n c ∧ f.i64s ∧ n ≤ c ∧ c ≤ maxLen ∧ Rds w 1 A n (bv f.load) := by
  obtain ⟨hl, hg⟩ := h.struct Try.underlying24 (by kernel_rfl)
  rw [show Try.prog.cellsOf 24 = 6 by kernel_rfl] at hl
  simp only [Value.cells] at hl hg
  obtain ⟨l, rfl⟩ : ∃ l : List Value, S = l.toArray := ⟨S.toList, by simp⟩
  simp only [List.toList_toArray] at hl hg
  match l, hl, hg with
  | [a, b, c, d, e, t], _, hg =>
    obtain ⟨xa, ha, ha2⟩ := (hg 0 _ rfl a rfl).i64 Try.underlying3
    obtain ⟨xb, hb, hb2⟩ := (hg 1 _ rfl b rfl).i64 Try.underlying3
    obtain ⟨xc, hc, hc2⟩ := (hg 2 _ rfl c rfl).i64 Try.underlying3
    obtain ⟨xd, hd, hd2⟩ := (hg 3 _ rfl d rfl).i64 Try.underlying3
    obtain ⟨xe, he, he2⟩ := (hg 4 _ rfl e rfl).i64 Try.underlying3
    obtain ⟨A, n, c, L, ht, h1, h2, h3⟩ := (hg 5 _ rfl t rfl).bytes Try.underlying22 (by kernel_rfl) Try.underlying5
    simp only [List.cons.injEq, and_true] at ha hb hc hd he ht
    subst ha hb hc hd he ht
    exact ⟨⟨xa, xb, xc, xd, xe, L⟩, A, n, c, rfl, ⟨ha2, hb2, hc2, hd2, he2⟩, h1, h2, h3⟩

theorem num_any (x : Int) (w : World) : Calls Try.prog 11 #[.int .i64 x] w fun e w2 => e = .returned (.int .i64 x) ∧ w = w2 := by
  go_enter Try.func11, Try.ntmps11
  go_wp2_with fail
  go_ret
  exact ⟨rfl, rfl⟩

theorem Fr.zero_err : Fr.zero.err = 0 := by decide
theorem Fr.zero_len : Fr.zero.pack.length = 11 := by
  rw [Fr.pack_ok Fr.zero_err, Fr.bytes_len]
  decide

set_option maxRecDepth 100000 in
set_option maxHeartbeats 1000000 in
theorem frame_alive (w : World) : Calls Try.prog 8 #[] w fun e w2 => e = .returned (.bool true) ∧ Chg Non w w2 := by
  go_enter Try.func8, Try.ntmps8
  go_wp2_with fail
  refine (pack_any w Fr.zero none 0 0 Rds.nil_ (Nat.le_refl _) (by unfold maxLen; omega)).mono ?_
  rintro e w1 ⟨v1, rfl, hown, hc1⟩
  rw [Fr.zero_err]
  obtain ⟨A1, n1, c1, rfl, hn1, hnc, hcm, hr1⟩ := hown.open_
  have h11 : n1 = 11 := by have := hn1.out; rw [Fr.zero_len] at this; exact this
  subst h11
  go_wp2_with fail
  refine (read_any w1 A1 11 c1 _ hr1 hnc (by omega)).mono ?_
  rintro e w2 ⟨A2, n2, c2, rfl, hown2, hc2⟩
  have hrb := read_bytes Fr.zero_err
  rw [Fr.pack_ok Fr.zero_err] at hown2 ⊢
  rw [hrb.1, hrb.2] at ⊢
  rw [hrb.2] at hown2
  have hC2 := hc1.non hc2
  clear hown hr1 hc1 hc2 hrb
  go_wp2_with fail
  obtain ⟨w3, hw3⟩ : ∃ w3, w2.alloc (.cells #[.int .i64 Fr.zero.a, .int .i64 Fr.zero.b, .int .i64 Fr.zero.c, .int .i64 Fr.zero.d, .int .i64 Fr.zero.e, .slice A2 n2 c2] 24) = w3 := ⟨_, rfl⟩
  rw [hw3]
  have hc3 : Chg Non w2 w3 := hw3 ▸ (Chg.refl _ _).alloc _
  have hb3 : Blk w3 w2.heap.size 24 #[.int .i64 Fr.zero.a, .int .i64 Fr.zero.b, .int .i64 Fr.zero.c, .int .i64 Fr.zero.d, .int .i64 Fr.zero.e, .slice A2 n2 c2] := hw3 ▸ Blk.new _ _ _
  have hr3 := hown2.rdsN.non hc3
  have hC3 := hC2.non hc3
  have y0 := hb3.cell 0
  have y1 := hb3.cell 1
  have y2 := hb3.cell 2
  have y3 := hb3.cell 3
  have y4 := hb3.cell 4
  have y5 := hb3.cell 5
  simp only [List.getElem?_toArray, List.getElem?_cons_zero, List.getElem?_cons_succ] at y0 y1 y2 y3 y4 y5
  clear hw3 hb3 hc3 hown2 hC2
  refine (num_any _ _).mono ?_
  rintro e w9 ⟨rfl, rfl⟩
  go_wp2_with fail
  refine (num_any _ _).mono ?_
  rintro e w9 ⟨rfl, rfl⟩
  go_wp2_with fail
  refine (sameFrame_self w3 Fr.zero A2 none n2 c2 0 0 hr3 Rds.nil_).mono ?_
  rintro e w4 ⟨rfl, hc4⟩
  go_wp2_with fail
  go_ret
  exact ⟨rfl, hC3.non hc4⟩
end Go.Proofs.Ytdllocgonjbmlaa
