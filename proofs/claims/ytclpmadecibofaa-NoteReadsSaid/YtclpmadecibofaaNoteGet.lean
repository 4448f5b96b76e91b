/-
  note's reader: get.
-/
import Derived.Test.YtclpmadecibofaaNoteRead
namespace Go.Proofs.Ytclpmadecibofaa
open Go.RowKit
set_option linter.unusedVariables false
set_option linter.unusedSimpArgs false

theorem NtOwn.sideC {w w2 : World} {base : Nat} {n : Nt} {A : Option Addr} {k c : Nat} {B : Option Addr} {m d g : Nat} {cs : Array Value} (h : NtOwn w base n A k c B m d) (hb : Blk w g 86 cs) (hc : Chg (fun b => b = g) w w2) : NtOwn w2 base n A k c B m d :=
  ⟨h.ok, h.args.chg hc (fun b hb2 e => h.args.apart hb (by decide) (by rw [hb2, show b = g from e])), h.mems.chg hc (fun b hb2 e => h.mems.apart hb (by decide) (by rw [hb2, show b = g from e]))⟩
theorem NtOwn.sideP {Dp : Nat → Prop} {w w2 : World} {base : Nat} {n : Nt} {A : Option Addr} {k c : Nat} {B : Option Addr} {m d g : Nat} {R : List UInt8} {bad : Bool} (h : NtOwn w base n A k c B m d) (hb : CurP Dp w g R bad) (hc : Chg (fun b => b = g) w w2) : NtOwn w2 base n A k c B m d := by
  obtain ⟨_, _, _, hb, _⟩ := hb
  exact h.sideC hb hc
/-- What get does: the note's block and the cursor behind it. -/
def GetPost (w : World) (lo base g nb : Nat) (s : St) (e : Ending) (w2 : World) : Prop :=
  ∃ A k c B m d, e = .returned (.tuple #[]) ∧ Blk w2 nb 31 (NtC s.1 A k c B m d) ∧ NtOwn w2 base s.1 A k c B m d ∧ CurP (fun b => b < lo) w2 g s.2.1 s.2.2 ∧ Chg (fun b => b = g ∨ b = nb ∨ base ≤ b) w w2

set_option maxRecDepth 100000 in
set_option maxHeartbeats 1000000 in
theorem get_0 (w : World) (lo base g nb : Nat) (o : Nt) (R : List UInt8) (bad : Bool) (A : Option Addr) (k c : Nat) (B : Option Addr) (m d : Nat) (hb : Blk w nb 31 (NtC o A k c B m d)) (hown : NtOwn w base o A k c B m d) (hcur : CurP (fun b => b < lo) w g R bad) (hg : g < lo) (hnb : lo ≤ nb) (hlo : lo ≤ base) (hbw : base ≤ w.heap.size) :
    Calls Try.prog 32 #[.agg #[.pointer (some ⟨g, 0, none⟩)], .pointer (some ⟨nb, 0, none⟩), .int .i64 0] w (GetPost w lo base g nb (getP (o, R, bad) 0)) := by
  obtain ⟨w1, hw1⟩ : ∃ w1, w.alloc (.cells #[.pointer (some ⟨g, 0, none⟩)] 65) = w1 := ⟨_, rfl⟩
  have hC1 : Chg Non w w1 := hw1 ▸ (Chg.refl _ _).alloc _
  have hr1 : Blk w1 w.heap.size 65 #[.pointer (some ⟨g, 0, none⟩)] := hw1 ▸ Blk.new _ _ _
  have x0 := hr1.cell 0
  simp only [List.getElem?_toArray, List.getElem?_cons_zero] at x0
  have hc1 := hcur.non hC1
  go_enter Try.func32, Try.ntmps32
  go_wp2_with fail
  refine (int_any g R bad w1 hc1).mono ?_
  rintro e w2 ⟨rfl, hcur2, hc2⟩
  have hi := cInt_i64 R bad
  have hb2 := (hb.non hC1).chg hc2 (fun e => by have e : nb = g := e; omega)
  have hown1 := hown.non hC1
  have y3 := hb2.cell 3
  simp only [NtC, List.getElem?_toArray, List.getElem?_cons_zero, List.getElem?_cons_succ] at y3
  have f3 := hb2.frozen 3
  go_wp2_with fail
  go_end0
  obtain ⟨_, _, _, hbk, _⟩ := hc1
  have hown2 := hown1.sideC hbk hc2
  have hSt : Chg (fun b => b = nb) w2 (w2.setCell ⟨nb, 3, none⟩ (.int .i64 (cInt R bad).1)) := (Chg.refl _ _).set1 3 _
  have hb3 := hb2.put 3 (.int .i64 (cInt R bad).1)
  simp only [List.setIfInBounds_toArray, List.set_cons_succ, List.set_cons_zero] at hb3
  have hs := hown2.side hb2 hSt
  have hok : Nt.ok { o with epoch := (cInt R bad).1 } := ⟨hs.ok.kind, hs.ok.node, hs.ok.life, hi, hs.ok.fn, hs.ok.args, hs.ok.err, hs.ok.val, hs.ok.vep, hs.ok.mems, hs.ok.id⟩
  exact ⟨A, k, c, B, m, d, rfl, hb3, ⟨hok, hs.args, hs.mems⟩, hcur2.other hSt (fun e => by have e : g = nb := e; omega) (fun b h e => by have e : b = nb := e; have h : b < lo := h; omega), (((hC1.mono (fun _ e => e.elim)).trans (hc2.mono (fun _ e => .inl e))).trans (hSt.mono (fun b e => .inr (.inl e))))⟩

set_option maxRecDepth 100000 in
set_option maxHeartbeats 1000000 in
theorem get_1 (w : World) (lo base g nb : Nat) (o : Nt) (R : List UInt8) (bad : Bool) (A : Option Addr) (k c : Nat) (B : Option Addr) (m d : Nat) (hb : Blk w nb 31 (NtC o A k c B m d)) (hown : NtOwn w base o A k c B m d) (hcur : CurP (fun b => b < lo) w g R bad) (hg : g < lo) (hnb : lo ≤ nb) (hlo : lo ≤ base) (hbw : base ≤ w.heap.size) :
    Calls Try.prog 32 #[.agg #[.pointer (some ⟨g, 0, none⟩)], .pointer (some ⟨nb, 0, none⟩), .int .i64 1] w (GetPost w lo base g nb (getP (o, R, bad) 1)) := by
  obtain ⟨w1, hw1⟩ : ∃ w1, w.alloc (.cells #[.pointer (some ⟨g, 0, none⟩)] 65) = w1 := ⟨_, rfl⟩
  have hC1 : Chg Non w w1 := hw1 ▸ (Chg.refl _ _).alloc _
  have hr1 : Blk w1 w.heap.size 65 #[.pointer (some ⟨g, 0, none⟩)] := hw1 ▸ Blk.new _ _ _
  have x0 := hr1.cell 0
  simp only [List.getElem?_toArray, List.getElem?_cons_zero] at x0
  have hc1 := hcur.non hC1
  go_enter Try.func32, Try.ntmps32
  go_wp2_with fail
  refine (int_any g R bad w1 hc1).mono ?_
  rintro e w2 ⟨rfl, hcur2, hc2⟩
  have hi := cInt_i64 R bad
  have hb2 := (hb.non hC1).chg hc2 (fun e => by have e : nb = g := e; omega)
  have hown1 := hown.non hC1
  have y2 := hb2.cell 2
  simp only [NtC, List.getElem?_toArray, List.getElem?_cons_zero, List.getElem?_cons_succ] at y2
  have f2 := hb2.frozen 2
  go_wp2_with fail
  go_end0
  obtain ⟨_, _, _, hbk, _⟩ := hc1
  have hown2 := hown1.sideC hbk hc2
  have hSt : Chg (fun b => b = nb) w2 (w2.setCell ⟨nb, 2, none⟩ (.int .i64 (cInt R bad).1)) := (Chg.refl _ _).set1 2 _
  have hb3 := hb2.put 2 (.int .i64 (cInt R bad).1)
  simp only [List.setIfInBounds_toArray, List.set_cons_succ, List.set_cons_zero] at hb3
  have hs := hown2.side hb2 hSt
  have hok : Nt.ok { o with life := (cInt R bad).1 } := ⟨hs.ok.kind, hs.ok.node, hi, hs.ok.epoch, hs.ok.fn, hs.ok.args, hs.ok.err, hs.ok.val, hs.ok.vep, hs.ok.mems, hs.ok.id⟩
  exact ⟨A, k, c, B, m, d, rfl, hb3, ⟨hok, hs.args, hs.mems⟩, hcur2.other hSt (fun e => by have e : g = nb := e; omega) (fun b h e => by have e : b = nb := e; have h : b < lo := h; omega), (((hC1.mono (fun _ e => e.elim)).trans (hc2.mono (fun _ e => .inl e))).trans (hSt.mono (fun b e => .inr (.inl e))))⟩

set_option maxRecDepth 100000 in
set_option maxHeartbeats 1000000 in
theorem get_2 (w : World) (lo base g nb : Nat) (o : Nt) (R : List UInt8) (bad : Bool) (A : Option Addr) (k c : Nat) (B : Option Addr) (m d : Nat) (hb : Blk w nb 31 (NtC o A k c B m d)) (hown : NtOwn w base o A k c B m d) (hcur : CurP (fun b => b < lo) w g R bad) (hg : g < lo) (hnb : lo ≤ nb) (hlo : lo ≤ base) (hbw : base ≤ w.heap.size) :
    Calls Try.prog 32 #[.agg #[.pointer (some ⟨g, 0, none⟩)], .pointer (some ⟨nb, 0, none⟩), .int .i64 2] w (GetPost w lo base g nb (getP (o, R, bad) 2)) := by
  obtain ⟨w1, hw1⟩ : ∃ w1, w.alloc (.cells #[.pointer (some ⟨g, 0, none⟩)] 65) = w1 := ⟨_, rfl⟩
  have hC1 : Chg Non w w1 := hw1 ▸ (Chg.refl _ _).alloc _
  have hr1 : Blk w1 w.heap.size 65 #[.pointer (some ⟨g, 0, none⟩)] := hw1 ▸ Blk.new _ _ _
  have x0 := hr1.cell 0
  simp only [List.getElem?_toArray, List.getElem?_cons_zero] at x0
  have hc1 := hcur.non hC1
  go_enter Try.func32, Try.ntmps32
  go_wp2_with fail
  refine (int_any g R bad w1 hc1).mono ?_
  rintro e w2 ⟨rfl, hcur2, hc2⟩
  have hi := cInt_i64 R bad
  have hb2 := (hb.non hC1).chg hc2 (fun e => by have e : nb = g := e; omega)
  have hown1 := hown.non hC1
  have y1 := hb2.cell 1
  simp only [NtC, List.getElem?_toArray, List.getElem?_cons_zero, List.getElem?_cons_succ] at y1
  have f1 := hb2.frozen 1
  go_wp2_with fail
  go_end0
  obtain ⟨_, _, _, hbk, _⟩ := hc1
  have hown2 := hown1.sideC hbk hc2
  have hSt : Chg (fun b => b = nb) w2 (w2.setCell ⟨nb, 1, none⟩ (.int .i64 (cInt R bad).1)) := (Chg.refl _ _).set1 1 _
  have hb3 := hb2.put 1 (.int .i64 (cInt R bad).1)
  simp only [List.setIfInBounds_toArray, List.set_cons_succ, List.set_cons_zero] at hb3
  have hs := hown2.side hb2 hSt
  have hok : Nt.ok { o with node := (cInt R bad).1 } := ⟨hs.ok.kind, hi, hs.ok.life, hs.ok.epoch, hs.ok.fn, hs.ok.args, hs.ok.err, hs.ok.val, hs.ok.vep, hs.ok.mems, hs.ok.id⟩
  exact ⟨A, k, c, B, m, d, rfl, hb3, ⟨hok, hs.args, hs.mems⟩, hcur2.other hSt (fun e => by have e : g = nb := e; omega) (fun b h e => by have e : b = nb := e; have h : b < lo := h; omega), (((hC1.mono (fun _ e => e.elim)).trans (hc2.mono (fun _ e => .inl e))).trans (hSt.mono (fun b e => .inr (.inl e))))⟩

set_option maxRecDepth 100000 in
set_option maxHeartbeats 1000000 in
theorem get_3 (w : World) (lo base g nb : Nat) (o : Nt) (R : List UInt8) (bad : Bool) (A : Option Addr) (k c : Nat) (B : Option Addr) (m d : Nat) (hb : Blk w nb 31 (NtC o A k c B m d)) (hown : NtOwn w base o A k c B m d) (hcur : CurP (fun b => b < lo) w g R bad) (hg : g < lo) (hnb : lo ≤ nb) (hlo : lo ≤ base) (hbw : base ≤ w.heap.size) (hR : R.length ≤ 1000000) :
    Calls Try.prog 32 #[.agg #[.pointer (some ⟨g, 0, none⟩)], .pointer (some ⟨nb, 0, none⟩), .int .i64 3] w (GetPost w lo base g nb (getP (o, R, bad) 3)) := by
  obtain ⟨w1, hw1⟩ : ∃ w1, w.alloc (.cells #[.pointer (some ⟨g, 0, none⟩)] 65) = w1 := ⟨_, rfl⟩
  have hC1 : Chg Non w w1 := hw1 ▸ (Chg.refl _ _).alloc _
  have hr1 : Blk w1 w.heap.size 65 #[.pointer (some ⟨g, 0, none⟩)] := hw1 ▸ Blk.new _ _ _
  have x0 := hr1.cell 0
  simp only [List.getElem?_toArray, List.getElem?_cons_zero] at x0
  have hc1 := hcur.non hC1
  go_enter Try.func32, Try.ntmps32
  go_wp2_with fail
  refine (bytes_any g R bad w1 hc1 (by omega)).mono ?_
  rintro e w2 ⟨v, rfl, hv, hcur2, hc2⟩
  obtain ⟨A9, n9, c9, rfl, hn9, _, _, hr9⟩ := hv.open_
  have q := run_string_rds Try.underlying34 Try.underlying5 Try.underlying22 hr9 c9
  have hb2 := (hb.non hC1).chg hc2 (fun e => by have e : nb = g := e; omega)
  have hown1 := hown.non hC1
  have y4 := hb2.cell 4
  simp only [NtC, List.getElem?_toArray, List.getElem?_cons_zero, List.getElem?_cons_succ] at y4
  have f4 := hb2.frozen 4
  go_wp2_with fail
  go_end0
  obtain ⟨_, _, _, hbk, _⟩ := hc1
  have hown2 := hown1.sideC hbk hc2
  have hSt : Chg (fun b => b = nb) w2 (w2.setCell ⟨nb, 4, none⟩ (.string ⟨(cBytes R bad).1.toArray⟩)) := (Chg.refl _ _).set1 4 _
  have hb3 := hb2.put 4 (.string ⟨(cBytes R bad).1.toArray⟩)
  simp only [List.setIfInBounds_toArray, List.set_cons_succ, List.set_cons_zero] at hb3
  have hs := hown2.side hb2 hSt
  have hlen : (cBytes R bad).1.length ≤ maxLen := by have h1 := hn9.out; have h2 := hv.rdsN; omega
  have hok : Nt.ok { o with id := ⟨(cBytes R bad).1.toArray⟩ } := ⟨hs.ok.kind, hs.ok.node, hs.ok.life, hs.ok.epoch, hs.ok.fn, hs.ok.args, hs.ok.err, hs.ok.val, hs.ok.vep, hs.ok.mems, by show (cBytes R bad).1.toArray.size ≤ maxLen; simpa using hlen⟩
  exact ⟨A, k, c, B, m, d, rfl, hb3, ⟨hok, hs.args, hs.mems⟩, hcur2.other hSt (fun e => by have e : g = nb := e; omega) (fun b h e => by have e : b = nb := e; have h : b < lo := h; omega), (((hC1.mono (fun _ e => e.elim)).trans (hc2.mono (fun _ e => .inl e))).trans (hSt.mono (fun b e => .inr (.inl e))))⟩

set_option maxRecDepth 100000 in
set_option maxHeartbeats 2000000 in
theorem get_5 (w : World) (lo base g nb : Nat) (o : Nt) (R : List UInt8) (bad : Bool) (A : Option Addr) (k c : Nat) (B : Option Addr) (m d : Nat) (hb : Blk w nb 31 (NtC o A k c B m d)) (hown : NtOwn w base o A k c B m d) (hcur : CurP (fun b => b < lo) w g R bad) (hg : g < lo) (hnb : lo ≤ nb) (hlo : lo ≤ base) (hbw : base ≤ w.heap.size) :
    Calls Try.prog 32 #[.agg #[.pointer (some ⟨g, 0, none⟩)], .pointer (some ⟨nb, 0, none⟩), .int .i64 5] w (GetPost w lo base g nb (getP (o, R, bad) 5)) := by
  obtain ⟨w1, hw1⟩ : ∃ w1, w.alloc (.cells #[.pointer (some ⟨g, 0, none⟩)] 65) = w1 := ⟨_, rfl⟩
  have hC1 : Chg Non w w1 := hw1 ▸ (Chg.refl _ _).alloc _
  have hr1 : Blk w1 w.heap.size 65 #[.pointer (some ⟨g, 0, none⟩)] := hw1 ▸ Blk.new _ _ _
  have x0 := hr1.cell 0
  simp only [List.getElem?_toArray, List.getElem?_cons_zero] at x0
  have hc1 := hcur.non hC1
  have hlt := hb.lt
  have hb1 := hb.non hC1
  have hown1 := hown.non hC1
  clear hb hown hcur
  go_enter Try.func32, Try.ntmps32
  go_wp2_with fail
  refine (int_any g R bad w1 hc1).mono ?_
  rintro e w2 ⟨rfl, hcur2, hc2⟩
  have hi := cInt_i64 R bad
  obtain ⟨⟨x, R2, bad2⟩, hq⟩ : ∃ q, cInt R bad = q := ⟨_, rfl⟩
  rw [hq] at hcur2 hi ⊢
  simp only at hcur2 hi ⊢
  have hb2 := hb1.chg hc2 (fun e => by have e : nb = g := e; omega)
  have hown2 := hown1.sideP hc1 hc2
  have hr2 := hr1.chg hc2 (fun e => by have e : w.heap.size = g := e; omega)
  have hC2 : Chg (fun b => b = g ∨ b = nb ∨ base ≤ b) w w2 := (hC1.mono (fun _ e => e.elim)).trans (hc2.mono (fun _ e => .inl e))
  have Hq := Lib.hid hq
  clear hq hw1 hc1 hb1 hown1 hr1 hC1 hc2 x0
  have z0 := hr2.cell 0
  simp only [List.getElem?_toArray, List.getElem?_cons_zero] at z0
  have hne : ¬ nb = w.heap.size := by omega
  have y7 := hb2.cell 7
  simp only [NtC, List.getElem?_toArray, List.getElem?_cons_zero, List.getElem?_cons_succ] at y7
  have f7 := hb2.frozen 7
  go_wp2_with fail
  clear z0 y7 f7
  obtain ⟨w3, hw3⟩ : ∃ w9, w2.setCell ⟨nb, 7, none⟩ (.int .i64 x) = w9 := ⟨_, rfl⟩
  have hS3 : Chg (fun b => b = nb) w2 w3 := hw3 ▸ (Chg.refl _ _).set1 7 _
  have hb3 := hb2.put 7 (.int .i64 x)
  simp only [List.setIfInBounds_toArray, List.set_cons_succ, List.set_cons_zero] at hb3
  rw [hw3] at hb3 ⊢
  have hown3 : NtOwn w3 base { o with err := x } A k c B m d := by
    have hs := hown2.side hb2 hS3
    exact ⟨⟨hs.ok.kind, hs.ok.node, hs.ok.life, hs.ok.epoch, hs.ok.fn, hs.ok.args, hi, hs.ok.val, hs.ok.vep, hs.ok.mems, hs.ok.id⟩, hs.args, hs.mems⟩
  have hr3 := hr2.chg hS3 (fun e => by have e : w.heap.size = nb := e; omega)
  have hcur3 := hcur2.other hS3 (fun e => by have e : g = nb := e; omega) (fun b h e => by have e : b = nb := e; have h : b < lo := h; omega)
  have hC3 := hC2.trans (hS3.mono (fun b e => .inr (.inl e)))
  clear hw3 hS3 hb2 hown2 hr2 hcur2 hC2
  refine (int_any g R2 bad2 _ hcur3).mono ?_
  rintro e w4 ⟨rfl, hcur4, hc4⟩
  have hi2 := cInt_i64 R2 bad2
  obtain ⟨⟨x2, R3, bad3⟩, hq2⟩ : ∃ q, cInt R2 bad2 = q := ⟨_, rfl⟩
  rw [hq2] at hcur4 hi2 ⊢
  simp only at hcur4 hi2 ⊢
  have hb4 := hb3.chg hc4 (fun e => by have e : nb = g := e; omega)
  have hown4 := hown3.sideP hcur3 hc4
  have hr4 := hr3.chg hc4 (fun e => by have e : w.heap.size = g := e; omega)
  have hC4 := hC3.trans (hc4.mono (fun _ e => .inl e))
  have Hq2 := Lib.hid hq2
  clear hq2 hc4 hb3 hown3 hr3 hcur3 hC3
  have y8 := hb4.cell 8
  simp only [NtC, List.getElem?_toArray, List.getElem?_cons_zero, List.getElem?_cons_succ] at y8
  have f8 := hb4.frozen 8
  go_wp2_with fail
  clear y8 f8
  go_end0
  obtain ⟨w5, hw5⟩ : ∃ w9, w4.setCell ⟨nb, 8, none⟩ (.int .i64 x2) = w9 := ⟨_, rfl⟩
  have hS5 : Chg (fun b => b = nb) w4 w5 := hw5 ▸ (Chg.refl _ _).set1 8 _
  have hb5 := hb4.put 8 (.int .i64 x2)
  simp only [List.setIfInBounds_toArray, List.set_cons_succ, List.set_cons_zero] at hb5
  rw [hw5] at hb5 ⊢
  have hown5 : NtOwn w5 base { o with err := x, val := x2 } A k c B m d := by
    have hs := hown4.side hb4 hS5
    exact ⟨⟨hs.ok.kind, hs.ok.node, hs.ok.life, hs.ok.epoch, hs.ok.fn, hs.ok.args, hs.ok.err, hi2, hs.ok.vep, hs.ok.mems, hs.ok.id⟩, hs.args, hs.mems⟩
  have hr5 := hr4.chg hS5 (fun e => by have e : w.heap.size = nb := e; omega)
  have hcur5 := hcur4.other hS5 (fun e => by have e : g = nb := e; omega) (fun b h e => by have e : b = nb := e; have h : b < lo := h; omega)
  have hC5 := hC4.trans (hS5.mono (fun b e => .inr (.inl e)))
  clear hw5 hS5 hb4 hown4 hr4 hcur4 hC4
  have hg2 : getP (o, R, bad) 5 = ({ o with err := x, val := x2 }, R3, bad3) := by
    unfold getP
    simp only [Int.reduceEq, if_false, if_true]
    rw [Hq.out]
    simp only
    rw [Hq2.out]
  exact ⟨A, k, c, B, m, d, rfl, by rw [hg2]; exact hb5, by rw [hg2]; exact hown5, by rw [hg2]; exact hcur5, hC5⟩

theorem getI_snoc : ∀ (j : Nat) (R : List UInt8) (bad : Bool), getI (j + 1) R bad = ((getI j R bad).1 ++ [(cInt (getI j R bad).2.1 (getI j R bad).2.2).1], (cInt (getI j R bad).2.1 (getI j R bad).2.2).2)
  | 0, R, bad => rfl
  | j + 1, R, bad => by
    have ih := getI_snoc j (cInt R bad).2.1 (cInt R bad).2.2
    have e : ∀ i, getI (i + 1) R bad = ((cInt R bad).1 :: (getI i (cInt R bad).2.1 (cInt R bad).2.2).1, (getI i (cInt R bad).2.1 (cInt R bad).2.2).2) := fun i => rfl
    rw [e (j + 1), e j, ih]
    rfl
theorem getM_snoc : ∀ (j : Nat) (R : List UInt8) (bad : Bool), getM (j + 1) R bad = ((getM j R bad).1 ++ [((cInt (getM j R bad).2.1 (getM j R bad).2.2).1, (cInt (cInt (getM j R bad).2.1 (getM j R bad).2.2).2.1 (cInt (getM j R bad).2.1 (getM j R bad).2.2).2.2).1)], (cInt (cInt (getM j R bad).2.1 (getM j R bad).2.2).2.1 (cInt (getM j R bad).2.1 (getM j R bad).2.2).2.2).2)
  | 0, R, bad => rfl
  | j + 1, R, bad => by
    have ih := getM_snoc j (cInt (cInt R bad).2.1 (cInt R bad).2.2).2.1 (cInt (cInt R bad).2.1 (cInt R bad).2.2).2.2
    have e : ∀ i, getM (i + 1) R bad = (((cInt R bad).1, (cInt (cInt R bad).2.1 (cInt R bad).2.2).1) :: (getM i (cInt (cInt R bad).2.1 (cInt R bad).2.2).2.1 (cInt (cInt R bad).2.1 (cInt R bad).2.2).2.2).1, (getM i (cInt (cInt R bad).2.1 (cInt R bad).2.2).2.1 (cInt (cInt R bad).2.1 (cInt R bad).2.2).2.2).2) := fun i => rfl
    rw [e (j + 1), e j, ih]
    rfl
theorem getI_len : ∀ (j : Nat) (R : List UInt8) (bad : Bool), (getI j R bad).1.length = j
  | 0, _, _ => rfl
  | j + 1, R, bad => by
    have := getI_len j (cInt R bad).2.1 (cInt R bad).2.2
    show ((cInt R bad).1 :: (getI j (cInt R bad).2.1 (cInt R bad).2.2).1).length = j + 1
    simp [this]
theorem getM_len : ∀ (j : Nat) (R : List UInt8) (bad : Bool), (getM j R bad).1.length = j
  | 0, _, _ => rfl
  | j + 1, R, bad => by
    have := getM_len j (cInt (cInt R bad).2.1 (cInt R bad).2.2).2.1 (cInt (cInt R bad).2.1 (cInt R bad).2.2).2.2
    show (_ :: (getM j (cInt (cInt R bad).2.1 (cInt R bad).2.2).2.1 (cInt (cInt R bad).2.1 (cInt R bad).2.2).2.2).1).length = j + 1
    simp [this]
theorem NtOwn.lenB {w : World} {base : Nat} {n : Nt} {A : Option Addr} {k c : Nat} {B : Option Addr} {m d : Nat} (h : NtOwn w base n A k c B m d) : n.mems.length = m := h.mems.rds.lenM.symm
theorem mv_snoc (L : List Mb) (m : Mb) : mv (L ++ [m]) = mv L ++ cellM m := flat_snoc _ _ _
theorem cnt_le (most x : Int) (h : 0 ≤ most) : ((cnt most x : Nat) : Int) ≤ most + 1 := by unfold cnt; omega
theorem NtOwn.lenA {w : World} {base : Nat} {n : Nt} {A : Option Addr} {k c : Nat} {B : Option Addr} {m d : Nat} (h : NtOwn w base n A k c B m d) : n.args.length = k := by
  have := h.args.len
  have e : (rkN).size = 1 := rfl
  rw [e, iv_len] at this
  omega

/-- The rounds that read numbers. -/
def RelI (w : World) (lo base g nb : Nat) (o : Nt) (R : List UInt8) (bad : Bool) (N : Nat) (i : Value) (wr : World) : Prop :=
  ∃ j : Nat, j ≤ N ∧ i = .int .i64 j ∧ ∃ A k c B m d, Blk wr nb 31 (NtC { o with args := o.args ++ (getI j R bad).1 } A k c B m d) ∧ NtOwn wr base { o with args := o.args ++ (getI j R bad).1 } A k c B m d ∧
    CurP (fun b => b < lo) wr g (getI j R bad).2.1 (getI j R bad).2.2 ∧ Blk wr w.heap.size 65 #[.pointer (some ⟨g, 0, none⟩)] ∧ Chg (fun b => b = g ∨ b = nb ∨ base ≤ b) w wr
def RelM (w : World) (lo base g nb : Nat) (o : Nt) (R : List UInt8) (bad : Bool) (N : Nat) (i : Value) (wr : World) : Prop :=
  ∃ j : Nat, j ≤ N ∧ i = .int .i64 j ∧ ∃ A k c B m d, Blk wr nb 31 (NtC { o with mems := o.mems ++ (getM j R bad).1 } A k c B m d) ∧ NtOwn wr base { o with mems := o.mems ++ (getM j R bad).1 } A k c B m d ∧
    CurP (fun b => b < lo) wr g (getM j R bad).2.1 (getM j R bad).2.2 ∧ Blk wr w.heap.size 65 #[.pointer (some ⟨g, 0, none⟩)] ∧ Chg (fun b => b = g ∨ b = nb ∨ base ≤ b) w wr

set_option maxRecDepth 100000 in
set_option maxHeartbeats 2000000 in
theorem get_4 (w : World) (lo base g nb : Nat) (o : Nt) (R : List UInt8) (bad : Bool) (A : Option Addr) (k c : Nat) (B : Option Addr) (m d : Nat) (hb : Blk w nb 31 (NtC o A k c B m d)) (hown : NtOwn w base o A k c B m d) (hcur : CurP (fun b => b < lo) w g R bad) (hg : g < lo) (hnb : lo ≤ nb) (hlo : lo ≤ base) (hbw : base ≤ w.heap.size) (hk : o.args.length ≤ 1000) :
    Calls Try.prog 32 #[.agg #[.pointer (some ⟨g, 0, none⟩)], .pointer (some ⟨nb, 0, none⟩), .int .i64 4] w (GetPost w lo base g nb (getP (o, R, bad) 4)) := by
  obtain ⟨w1, hw1⟩ : ∃ w1, w.alloc (.cells #[.pointer (some ⟨g, 0, none⟩)] 65) = w1 := ⟨_, rfl⟩
  have hC1 : Chg Non w w1 := hw1 ▸ (Chg.refl _ _).alloc _
  have hr1 : Blk w1 w.heap.size 65 #[.pointer (some ⟨g, 0, none⟩)] := hw1 ▸ Blk.new _ _ _
  have x0 := hr1.cell 0
  simp only [List.getElem?_toArray, List.getElem?_cons_zero] at x0
  have hc1 := hcur.non hC1
  have hlt := hb.lt
  have hb1 := hb.non hC1
  have hown1 := hown.non hC1
  clear hb hown hcur
  go_enter Try.func32, Try.ntmps32
  go_wp2_with fail
  refine (int_any g R bad w1 hc1).mono ?_
  rintro e w2 ⟨rfl, hcur2, hc2⟩
  have hi := cInt_i64 R bad
  obtain ⟨⟨x, R2, bad2⟩, hq⟩ : ∃ q, cInt R bad = q := ⟨_, rfl⟩
  rw [hq] at hcur2 hi ⊢
  simp only at hcur2 hi ⊢
  have hb2 := hb1.chg hc2 (fun e => by have e : nb = g := e; omega)
  have hown2 := hown1.sideP hc1 hc2
  have hr2 := hr1.chg hc2 (fun e => by have e : w.heap.size = g := e; omega)
  have hC2 : Chg (fun b => b = g ∨ b = nb ∨ base ≤ b) w w2 := (hC1.mono (fun _ e => e.elim)).trans (hc2.mono (fun _ e => .inl e))
  have Hq := Lib.hid hq
  clear hq hw1 hc1 hb1 hown1 hr1 hC1 hc2 x0
  have z0 := hr2.cell 0
  simp only [List.getElem?_toArray, List.getElem?_cons_zero] at z0
  have hne : ¬ nb = w.heap.size := by omega
  have y5 := hb2.cell 5
  simp only [NtC, List.getElem?_toArray, List.getElem?_cons_zero, List.getElem?_cons_succ] at y5
  have f5 := hb2.frozen 5
  go_wp2_with fail
  clear z0 y5 f5
  obtain ⟨w3, hw3⟩ : ∃ w9, w2.setCell ⟨nb, 5, none⟩ (.int .i64 x) = w9 := ⟨_, rfl⟩
  have hS3 : Chg (fun b => b = nb) w2 w3 := hw3 ▸ (Chg.refl _ _).set1 5 _
  have hb3 := hb2.put 5 (.int .i64 x)
  simp only [List.setIfInBounds_toArray, List.set_cons_succ, List.set_cons_zero] at hb3
  rw [hw3] at hb3 ⊢
  have hown3 : NtOwn w3 base { o with fn := x } A k c B m d := by
    have hs := hown2.side hb2 hS3
    exact ⟨⟨hs.ok.kind, hs.ok.node, hs.ok.life, hs.ok.epoch, hi, hs.ok.args, hs.ok.err, hs.ok.val, hs.ok.vep, hs.ok.mems, hs.ok.id⟩, hs.args, hs.mems⟩
  have hr3 := hr2.chg hS3 (fun e => by have e : w.heap.size = nb := e; omega)
  have hcur3 := hcur2.other hS3 (fun e => by have e : g = nb := e; omega) (fun b h e => by have e : b = nb := e; have h : b < lo := h; omega)
  have hC3 := hC2.trans (hS3.mono (fun b e => .inr (.inl e)))
  clear hw3 hS3 hb2 hown2 hr2 hcur2 hC2
  refine (count_any w3 g R2 bad2 8 (by omega) hcur3).mono ?_
  rintro e w4 ⟨rfl, hcur4, hc4⟩
  have hcl := cnt_le 8 (cInt R2 bad2).1 (by omega)
  obtain ⟨⟨x2, R3, bad3⟩, hq2⟩ : ∃ q, cInt R2 bad2 = q := ⟨_, rfl⟩
  rw [hq2] at hcur4 hcl ⊢
  simp only at hcur4 hcl ⊢
  obtain ⟨N, hN⟩ : ∃ N, cnt 8 x2 = N := ⟨_, rfl⟩
  rw [hN] at hcl ⊢
  have hb4 := hb3.chg hc4 (fun e => by have e : nb = g := e; omega)
  have hown4 := hown3.sideP hcur3 hc4
  have hr4 := hr3.chg hc4 (fun e => by have e : w.heap.size = g := e; omega)
  have hC4 := hC3.trans (hc4.mono (fun _ e => .inl e))
  have Hq2 := Lib.hid hq2
  have HN := Lib.hid hN
  have hlt4 := hC4.size
  clear hq2 hN hc4 hb3 hown3 hr3 hcur3 hC3
  go_wp2_with fail
  go_loopw [50] (RelI w lo base g nb { o with fn := x } R3 bad3 N) (fun i _ => N - (intOf i).toNat)
  case atStart => exact ⟨0, Nat.zero_le _, rfl, A, k, c, B, m, d, by simpa [getI] using hb4, by simpa [getI] using hown4, hcur4, hr4, hC4⟩
  case round =>
    clear hb4 hown4 hr4 hcur4 hC4
    obtain ⟨j, hj, rfl, A, k, c, B, m, d, hbr, hownr, hcurr, hrr, hCr⟩ := hrel
    have hsn := getI_snoc j R3 bad3
    have hgl := getI_len j R3 bad3
    obtain ⟨⟨L, R4, bad4⟩, hq4⟩ : ∃ q, getI j R3 bad3 = q := ⟨_, rfl⟩
    rw [hq4] at hbr hownr hcurr hsn hgl
    simp only at hbr hownr hcurr hsn hgl
    by_cases hlt2 : j < N
    · have hi4 := cInt_i64 R4 bad4
      obtain ⟨⟨y, R5, bad5⟩, hq5⟩ : ∃ q, cInt R4 bad4 = q := ⟨_, rfl⟩
      rw [hq5] at hsn hi4
      simp only at hsn hi4
      have hlen := hownr.lenA
      simp only [List.length_append] at hlen
      have hkN : k ≤ 1010 := by omega
      have hob : ∀ b, (Value.slice A k c).ownBlock = some b → base ≤ b ∧ b < wr.heap.size := fun b hb => hownr.args.lt hb
      have hobn : ∀ b, (Value.slice A k c).ownBlock = some b → b ≠ nb := fun b hb e => hownr.args.apart hbr (by decide) (e ▸ hb)
      have hobw : ∀ b, (Value.slice A k c).ownBlock = some b → b ≠ w.heap.size := fun b hb e => hownr.args.apart hrr (by decide) (e ▸ hb)
      have hobm : ∀ b, (Value.slice B m d).ownBlock = some b → (Value.slice A k c).ownBlock ≠ some b := by
        intro b hb e
        rcases hownr.mems.2 with ⟨h, _⟩ | ⟨g2, cap, cur, h, _, hh, _⟩
        · rw [h] at hb; simp [Value.ownBlock] at hb
        · rw [h] at hb
          have : g2 = b := by simpa [Value.ownBlock] using hb
          subst this
          exact hownr.args.apart (t := rkM.e) hh (by decide) e
      have Hq5 := Lib.hid hq5
      have Hsn := Lib.hid hsn
      have Hq4 := Lib.hid hq4
      obtain ⟨T, hT⟩ : ∃ T : Nat → Prop, T = fun b => b = g ∨ (Value.slice A k c).ownBlock = some b := ⟨_, rfl⟩
      have hTn : ¬ T nb := by rw [hT]; rintro (e | e); (· omega); exact hobn _ e rfl
      have hTw : ¬ T w.heap.size := by rw [hT]; rintro (e | e); (· omega); exact hobw _ e rfl
      have k0 : ∀ w2, Chg T wr w2 → w2.cell? ⟨nb, 6, none⟩ = some (.slice A k c) := fun w2 h => h.cell (hbr.cell 6) hTn
      have kx : ∀ w2, Chg T wr w2 → w2.cell? ⟨w.heap.size, 0, none⟩ = some (.pointer (some ⟨g, 0, none⟩)) := fun w2 h => h.cell (hrr.cell 0) hTw
      have hTlt : ∀ b, T b → b < wr.heap.size := by rw [hT]; rintro b (e | e); (· have := hCr.size; omega); exact (hob b e).2
      have HT := Lib.hid hT
      clear hq5 hsn hq4 hT
      go_wp2_with fail
      refine st_region_tail 8 12 T [7, 9] [8] (fun i _ v w2 => CurP (fun b => b < lo) w2 g R5 bad5 ∧ (if i = 7 then OwnR rkN w2 base (.slice A k c) k (iv (o.args ++ L)) else OwnR rkN w2 base v (k + 1) (iv (o.args ++ L ++ [y])) ∧ (∀ b, v.ownBlock = some b → (Value.slice A k c).ownBlock = some b ∨ wr.heap.size ≤ b))) (fun _ _ _ _ => True) (fun i _ v => if i = 7 then v = .int .i64 y else ∃ A n c, v = .slice A n c) (fun w2 => CurP (fun b => b < lo) w2 g R4 bad4 ∧ OwnR rkN w2 base (.slice A k c) k (iv (o.args ++ L))) (by kernel_rfl) (by kernel_rfl) (by kernel_rfl) hTlt ⟨hcurr, hownr.args⟩ (fun _ _ h => ⟨h.1.non ((Chg.refl _ _).alloc _), h.2.alloc _⟩) ?_
      repeat (first | (refine st_pass (by rfl) ?_; simp only [Act.put, List.setIfInBounds_toArray, List.set_cons_succ, List.set_cons_zero]) | (refine st_plain (T) (wr) rfl rfl (f := ?_) (by rfl) rfl rfl (fun w hC hG => ?_) ?_; rotate_left; (clear hG; first | (go_simp; done) | (go_simp; with_reducible rfl) | (simp [*, go_sem, ↓IntWalk.iteOmega]; done) | (simp [*, go_sem, ↓IntWalk.iteOmega]; with_reducible rfl)); simp only [Act.put, List.setIfInBounds_toArray, List.set_cons_succ, List.set_cons_zero]))
      refine st_major (T) (wr) rfl rfl (by rfl) rfl (⟨.int .i64 y, rfl⟩) (fun _ _ _ _ _ _ => trivial) (fun v w ob h => ⟨h.1.non ((Chg.refl _ _).alloc _), h.2.alloc _⟩) (fun w hC hG hS => settle_of (r2 := ?_) ?_ ?_) ?_
      rotate_left
      (first | (go_simp; done) | (go_simp; rfl))
      · refine settle_enter ((int_any g R4 bad4 _ hS.1).mono ?_)
        rintro e w6 ⟨rfl, hcur6, hc6⟩
        rw [Hq5.out] at hcur6 ⊢
        refine ⟨_, rfl, rfl, hc6.mono (fun b e => by rw [HT.out]; exact .inl e), ⟨hcur6, hS.2.chg hc6 (fun b hb e => by have := (hob b hb).1; have e : b = g := e; omega)⟩, trivial⟩
      · rintro v4 hv4
        obtain rfl : v4 = .int .i64 y := hv4
        simp only [Act.put, List.setIfInBounds_toArray, List.set_cons_succ, List.set_cons_zero]
        refine st_minor T wr rfl rfl (ob := .cells #[.int .i64 y] 3) (kd := some (1, 1)) (by rfl) rfl rfl (fun w hC hG => by clear hG; go_simp; rfl) (fun g2 => ?_)
        simp only [Act.put, List.setIfInBounds_toArray, List.set_cons_succ, List.set_cons_zero]
        refine st_major (T) (wr) rfl rfl (by rfl) rfl (⟨.slice none 0 0, none, 0, 0, rfl⟩) (fun _ _ _ _ _ _ => trivial) (fun v w ob h => ⟨h.1.non ((Chg.refl _ _).alloc _), h.2.1.alloc _, h.2.2⟩) (fun w hC hG hS => ?_) ?_
        · have hB : Rds w 1 (some ⟨g2, 0, none⟩) 1 [.int .i64 y] := Rds.block (cs := #[.int .i64 y]) (show w.heap[g2]? = _ from (hG 8 rfl).2) rfl
          refine settle_appR (K := rkN) (.tmp 56) (.tmp 60) rfl hS.2 rfl hB rfl (iv_one' [y]) (by omega) (by have := hC.size; have := hCr.size; omega) ?_
          intro v2 w2 h2 h3 h4
          obtain ⟨A2, c2, rfl, _⟩ := h2.open_
          refine ⟨⟨_, _, _, rfl⟩, h3.mono (fun b e => by rw [HT.out]; exact .inr e), ⟨hS.1.other h3 (fun e => by have := (hob g e).1; omega) (fun b h e => by have := (hob b e).1; have h : b < lo := h; omega), ?_, fun b hb => ?_⟩, trivial⟩
          · simpa [iv] using h2
          · rcases h4 with h4 | h4
            · exact .inl (h4 ▸ hb)
            · rw [h4] at hb
              obtain rfl := Option.some.inj hb
              exact .inr hC.size
        · rintro v5 ⟨A5, n5, c5, rfl⟩
          simp only [Act.put, List.setIfInBounds_toArray, List.set_cons_succ, List.set_cons_zero]
          repeat (first | (refine st_pass (by rfl) ?_; simp only [Act.put, List.setIfInBounds_toArray, List.set_cons_succ, List.set_cons_zero]) | (refine st_plain (T) (wr) rfl rfl (f := ?_) (by rfl) rfl rfl (fun w hC hG => ?_) ?_; rotate_left; (clear hG; first | (go_simp; done) | (go_simp; with_reducible rfl) | (simp [*, go_sem, ↓IntWalk.iteOmega]; done) | (simp [*, go_sem, ↓IntWalk.iteOmega]; with_reducible rfl)); simp only [Act.put, List.setIfInBounds_toArray, List.set_cons_succ, List.set_cons_zero]))
          refine st_tail T wr rfl rfl rfl (fun w7 hC7 hS7 _ => ?_)
          simp only [List.drop_succ_cons, List.drop_zero]
          obtain ⟨hcur7, ho7, hob7⟩ := hS7
          obtain rfl : n5 = k + 1 := by
            obtain ⟨A6, c6, e, _⟩ := OwnR.open_ ho7
            injection e
          have hb7 := hbr.chg hC7 hTn
          have hr7 := hrr.chg hC7 hTw
          have y6 := hb7.cell 6
          have f6 := hb7.frozen 6
          simp only [NtC, List.getElem?_toArray, List.getElem?_cons_zero, List.getElem?_cons_succ] at y6
          have hm7 : OwnR rkM w7 base (.slice B m d) m (mv o.mems) := hownr.mems.chg hC7 (fun b hb e => by
            rw [HT.out] at e
            rcases e with e | e
            · have := (hownr.mems.lt hb).1; omega
            · exact hobm b hb e)
          have hCx : Chg (fun b => b = g ∨ b = nb ∨ base ≤ b) w w7 := hCr.trans2 hC7 (fun b e => by
            rw [HT.out] at e
            rcases e with e | e
            · exact .inl (.inl e)
            · exact .inl (.inr (.inr (hob b e).1)))
          have hSt : Chg (fun b => b = nb) w7 (w7.setCell ⟨nb, 6, none⟩ (.slice A5 (k + 1) c5)) := (Chg.refl _ _).set1 6 _
          have hb8 := hb7.put 6 (.slice A5 (k + 1) c5)
          simp only [List.setIfInBounds_toArray, List.set_cons_succ, List.set_cons_zero] at hb8
          have ho8 := ho7.chg hSt (fun b hb e => by
            have e : b = nb := e
            subst e
            rcases hob7 b hb with e2 | e2
            · exact hobn b e2 rfl
            · have := hb7.lt; have := hCr.size; have := hbr.lt; omega)
          have hm8 := hm7.chg hSt (fun b hb e => hm7.apart hb7 (by decide) (by rw [hb, show b = nb from e]))
          have hr8 := hr7.chg hSt (fun e => by have e : w.heap.size = nb := e; omega)
          have hcur8 := CurP.other hcur7 hSt (fun e => by have e : g = nb := e; omega) (fun b h e => by have e : b = nb := e; have h : b < lo := h; omega)
          have hC8 := hCx.trans (hSt.mono (fun b e => .inr (.inl e)))
          have hrel : RelI w lo base g nb { o with fn := x } R3 bad3 N (.int .i64 ((j + 1 : Nat) : Int)) (w7.setCell ⟨nb, 6, none⟩ (.slice A5 (k + 1) c5)) := by
            refine ⟨j + 1, by omega, rfl, A5, k + 1, c5, B, m, d, ?_, ?_, ?_, hr8, hC8⟩
            · rw [Hsn.out]; exact hb8
            · rw [Hsn.out]
              refine ⟨⟨hownr.ok.kind, hownr.ok.node, hownr.ok.life, hownr.ok.epoch, hownr.ok.fn, fun q hq => ?_, hownr.ok.err, hownr.ok.val, hownr.ok.vep, hownr.ok.mems, hownr.ok.id⟩, by show OwnR rkN _ _ _ _ (iv (o.args ++ (L ++ [y]))); rw [← List.append_assoc]; exact ho8, hm8⟩
              have hq : q ∈ o.args ++ (L ++ [y]) := hq
              rw [← List.append_assoc, List.mem_append] at hq
              rcases hq with hq | hq
              · exact hownr.ok.args q hq
              · simp only [List.mem_singleton] at hq
                rw [hq]
                exact hi4
            · rw [Hsn.out]; exact hcur8
          have Hrel := Lib.hid hrel
          clear hrel hC8 hcur8 hr8 hm8 ho8 hb8 hSt hCx hm7 hr7 hb7 hob7 ho7 hcur7 hC7 k0 kx
          go_wp2_with fail
          go_roundw
          case rel => exact Hrel.out
          case measure => simp [intOf]; omega
    · obtain rfl : j = N := by omega
      clear hsn
      go_wp2_with fail
      go_end0
      have hg2 : getP (o, R, bad) 4 = ({ o with fn := x, args := o.args ++ L }, R4, bad4) := by
        unfold getP
        simp only [Int.reduceEq, if_false, if_true]
        rw [Hq.out]
        simp only
        rw [Hq2.out]
        simp only
        rw [HN.out, hq4]
      exact ⟨A, k, c, B, m, d, rfl, by rw [hg2]; exact hbr, by rw [hg2]; exact hownr, by rw [hg2]; exact hcurr, hCr⟩

set_option maxRecDepth 100000 in
set_option maxHeartbeats 2000000 in
theorem get_6 (w : World) (lo base g nb : Nat) (o : Nt) (R : List UInt8) (bad : Bool) (A : Option Addr) (k c : Nat) (B : Option Addr) (m d : Nat) (hb : Blk w nb 31 (NtC o A k c B m d)) (hown : NtOwn w base o A k c B m d) (hcur : CurP (fun b => b < lo) w g R bad) (hg : g < lo) (hnb : lo ≤ nb) (hlo : lo ≤ base) (hbw : base ≤ w.heap.size) (hm : o.mems.length ≤ 1000) :
    Calls Try.prog 32 #[.agg #[.pointer (some ⟨g, 0, none⟩)], .pointer (some ⟨nb, 0, none⟩), .int .i64 6] w (GetPost w lo base g nb (getP (o, R, bad) 6)) := by
  obtain ⟨w1, hw1⟩ : ∃ w1, w.alloc (.cells #[.pointer (some ⟨g, 0, none⟩)] 65) = w1 := ⟨_, rfl⟩
  have hC1 : Chg Non w w1 := hw1 ▸ (Chg.refl _ _).alloc _
  have hr1 : Blk w1 w.heap.size 65 #[.pointer (some ⟨g, 0, none⟩)] := hw1 ▸ Blk.new _ _ _
  have x0 := hr1.cell 0
  simp only [List.getElem?_toArray, List.getElem?_cons_zero] at x0
  have hc1 := hcur.non hC1
  have hlt := hb.lt
  have hb1 := hb.non hC1
  have hown1 := hown.non hC1
  clear hb hown hcur
  go_enter Try.func32, Try.ntmps32
  go_wp2_with fail
  refine (int_any g R bad w1 hc1).mono ?_
  rintro e w2 ⟨rfl, hcur2, hc2⟩
  have hi := cInt_i64 R bad
  obtain ⟨⟨x, R2, bad2⟩, hq⟩ : ∃ q, cInt R bad = q := ⟨_, rfl⟩
  rw [hq] at hcur2 hi ⊢
  simp only at hcur2 hi ⊢
  have hb2 := hb1.chg hc2 (fun e => by have e : nb = g := e; omega)
  have hown2 := hown1.sideP hc1 hc2
  have hr2 := hr1.chg hc2 (fun e => by have e : w.heap.size = g := e; omega)
  have hC2 : Chg (fun b => b = g ∨ b = nb ∨ base ≤ b) w w2 := (hC1.mono (fun _ e => e.elim)).trans (hc2.mono (fun _ e => .inl e))
  have Hq := Lib.hid hq
  clear hq hw1 hc1 hb1 hown1 hr1 hC1 hc2 x0
  have z0 := hr2.cell 0
  simp only [List.getElem?_toArray, List.getElem?_cons_zero] at z0
  have hne : ¬ nb = w.heap.size := by omega
  have y9 := hb2.cell 9
  simp only [NtC, List.getElem?_toArray, List.getElem?_cons_zero, List.getElem?_cons_succ] at y9
  have f9 := hb2.frozen 9
  go_wp2_with fail
  clear z0 y9 f9
  obtain ⟨w3, hw3⟩ : ∃ w9, w2.setCell ⟨nb, 9, none⟩ (.int .i64 x) = w9 := ⟨_, rfl⟩
  have hS3 : Chg (fun b => b = nb) w2 w3 := hw3 ▸ (Chg.refl _ _).set1 9 _
  have hb3 := hb2.put 9 (.int .i64 x)
  simp only [List.setIfInBounds_toArray, List.set_cons_succ, List.set_cons_zero] at hb3
  rw [hw3] at hb3 ⊢
  have hown3 : NtOwn w3 base { o with vep := x } A k c B m d := by
    have hs := hown2.side hb2 hS3
    exact ⟨⟨hs.ok.kind, hs.ok.node, hs.ok.life, hs.ok.epoch, hs.ok.fn, hs.ok.args, hs.ok.err, hs.ok.val, hi, hs.ok.mems, hs.ok.id⟩, hs.args, hs.mems⟩
  have hr3 := hr2.chg hS3 (fun e => by have e : w.heap.size = nb := e; omega)
  have hcur3 := hcur2.other hS3 (fun e => by have e : g = nb := e; omega) (fun b h e => by have e : b = nb := e; have h : b < lo := h; omega)
  have hC3 := hC2.trans (hS3.mono (fun b e => .inr (.inl e)))
  clear hw3 hS3 hb2 hown2 hr2 hcur2 hC2
  refine (count_any w3 g R2 bad2 16 (by omega) hcur3).mono ?_
  rintro e w4 ⟨rfl, hcur4, hc4⟩
  have hcl := cnt_le 16 (cInt R2 bad2).1 (by omega)
  obtain ⟨⟨x2, R3, bad3⟩, hq2⟩ : ∃ q, cInt R2 bad2 = q := ⟨_, rfl⟩
  rw [hq2] at hcur4 hcl ⊢
  simp only at hcur4 hcl ⊢
  obtain ⟨N, hN⟩ : ∃ N, cnt 16 x2 = N := ⟨_, rfl⟩
  rw [hN] at hcl ⊢
  have hb4 := hb3.chg hc4 (fun e => by have e : nb = g := e; omega)
  have hown4 := hown3.sideP hcur3 hc4
  have hr4 := hr3.chg hc4 (fun e => by have e : w.heap.size = g := e; omega)
  have hC4 := hC3.trans (hc4.mono (fun _ e => .inl e))
  have Hq2 := Lib.hid hq2
  have HN := Lib.hid hN
  have hlt4 := hC4.size
  clear hq2 hN hc4 hb3 hown3 hr3 hcur3 hC3
  go_wp2_with fail
  go_loopw [92] (RelM w lo base g nb { o with vep := x } R3 bad3 N) (fun i _ => N - (intOf i).toNat)
  case atStart => exact ⟨0, Nat.zero_le _, rfl, A, k, c, B, m, d, by simpa [getM] using hb4, by simpa [getM] using hown4, hcur4, hr4, hC4⟩
  case round =>
    clear hb4 hown4 hr4 hcur4 hC4
    obtain ⟨j, hj, rfl, A, k, c, B, m, d, hbr, hownr, hcurr, hrr, hCr⟩ := hrel
    have hsn := getM_snoc j R3 bad3
    have hgl := getM_len j R3 bad3
    obtain ⟨⟨L, R4, bad4⟩, hq4⟩ : ∃ q, getM j R3 bad3 = q := ⟨_, rfl⟩
    rw [hq4] at hbr hownr hcurr hsn hgl
    simp only at hbr hownr hcurr hsn hgl
    by_cases hlt2 : j < N
    · have hi4 := cInt_i64 R4 bad4
      obtain ⟨⟨y, R5, bad5⟩, hq5⟩ : ∃ q, cInt R4 bad4 = q := ⟨_, rfl⟩
      rw [hq5] at hsn hi4
      simp only at hsn hi4
      have hi5 := cInt_i64 R5 bad5
      obtain ⟨⟨z, R6, bad6⟩, hq6⟩ : ∃ q, cInt R5 bad5 = q := ⟨_, rfl⟩
      rw [hq6] at hsn hi5
      simp only at hsn hi5
      have hlen := hownr.lenB
      simp only [List.length_append] at hlen
      have hkN : m ≤ 1020 := by omega
      have hob : ∀ b, (Value.slice B m d).ownBlock = some b → base ≤ b ∧ b < wr.heap.size := fun b hb => hownr.mems.lt hb
      have hobn : ∀ b, (Value.slice B m d).ownBlock = some b → b ≠ nb := fun b hb e => hownr.mems.apart hbr (by decide) (e ▸ hb)
      have hobw : ∀ b, (Value.slice B m d).ownBlock = some b → b ≠ w.heap.size := fun b hb e => hownr.mems.apart hrr (by decide) (e ▸ hb)
      have hobm : ∀ b, (Value.slice A k c).ownBlock = some b → (Value.slice B m d).ownBlock ≠ some b := by
        intro b hb e
        rcases hownr.args.2 with ⟨h, _⟩ | ⟨g2, cap, cur, h, _, hh, _⟩
        · rw [h] at hb; simp [Value.ownBlock] at hb
        · rw [h] at hb
          have : g2 = b := by simpa [Value.ownBlock] using hb
          subst this
          exact hownr.mems.apart (t := rkN.e) hh (by decide) e
      have Hq5 := Lib.hid hq5
      have Hq6 := Lib.hid hq6
      have Hsn := Lib.hid hsn
      have Hq4 := Lib.hid hq4
      obtain ⟨T, hT⟩ : ∃ T : Nat → Prop, T = fun b => b = g ∨ (Value.slice B m d).ownBlock = some b := ⟨_, rfl⟩
      have hTn : ¬ T nb := by rw [hT]; rintro (e | e); (· omega); exact hobn _ e rfl
      have hTw : ¬ T w.heap.size := by rw [hT]; rintro (e | e); (· omega); exact hobw _ e rfl
      have k0 : ∀ w2, Chg T wr w2 → w2.cell? ⟨nb, 10, none⟩ = some (.slice B m d) := fun w2 h => h.cell (hbr.cell 10) hTn
      have kx : ∀ w2, Chg T wr w2 → w2.cell? ⟨w.heap.size, 0, none⟩ = some (.pointer (some ⟨g, 0, none⟩)) := fun w2 h => h.cell (hrr.cell 0) hTw
      have hTlt : ∀ b, T b → b < wr.heap.size := by rw [hT]; rintro b (e | e); (· have := hCr.size; omega); exact (hob b e).2
      have HT := Lib.hid hT
      clear hq5 hq6 hsn hq4 hT
      go_wp2_with fail
      refine st_region_tail 8 18 T [8, 11, 14] [13] (fun i _ v w2 => if i = 8 then CurP (fun b => b < lo) w2 g R5 bad5 ∧ OwnR rkM w2 base (.slice B m d) m (mv (o.mems ++ L)) else CurP (fun b => b < lo) w2 g R6 bad6 ∧ (if i = 11 then OwnR rkM w2 base (.slice B m d) m (mv (o.mems ++ L)) else OwnR rkM w2 base v (m + 1) (mv (o.mems ++ L ++ [(y, z)])) ∧ (∀ b, v.ownBlock = some b → (Value.slice B m d).ownBlock = some b ∨ wr.heap.size ≤ b))) (fun _ _ _ _ => True) (fun i _ v => if i = 8 then v = .int .i64 y else if i = 11 then v = .int .i64 z else ∃ A n c, v = .slice A n c) (fun w2 => CurP (fun b => b < lo) w2 g R4 bad4 ∧ OwnR rkM w2 base (.slice B m d) m (mv (o.mems ++ L))) (by kernel_rfl) (by kernel_rfl) (by kernel_rfl) hTlt ⟨hcurr, hownr.mems⟩ (fun _ _ h => ⟨h.1.non ((Chg.refl _ _).alloc _), h.2.alloc _⟩) ?_
      repeat (first | (refine st_pass (by rfl) ?_; simp only [Act.put, List.setIfInBounds_toArray, List.set_cons_succ, List.set_cons_zero]) | (refine st_plain (T) (wr) rfl rfl (f := ?_) (by rfl) rfl rfl (fun w hC hG => ?_) ?_; rotate_left; (clear hG; first | (go_simp; done) | (go_simp; with_reducible rfl) | (simp [*, go_sem, ↓IntWalk.iteOmega]; done) | (simp [*, go_sem, ↓IntWalk.iteOmega]; with_reducible rfl)); simp only [Act.put, List.setIfInBounds_toArray, List.set_cons_succ, List.set_cons_zero]))
      refine st_major (T) (wr) rfl rfl (by rfl) rfl (⟨.int .i64 y, rfl⟩) (fun _ _ _ _ _ _ => trivial) (fun v w ob h => ⟨h.1.non ((Chg.refl _ _).alloc _), h.2.alloc _⟩) (fun w hC hG hS => settle_of (r2 := ?_) ?_ ?_) ?_
      rotate_left
      (first | (go_simp; done) | (go_simp; rfl))
      · refine settle_enter ((int_any g R4 bad4 _ hS.1).mono ?_)
        rintro e w6 ⟨rfl, hcur6, hc6⟩
        rw [Hq5.out] at hcur6 ⊢
        refine ⟨_, rfl, rfl, hc6.mono (fun b e => by rw [HT.out]; exact .inl e), ⟨hcur6, hS.2.chg hc6 (fun b hb e => by have := (hob b hb).1; have e : b = g := e; omega)⟩, trivial⟩
      rintro v4 hv4
      obtain rfl : v4 = .int .i64 y := hv4
      simp only [Act.put, List.setIfInBounds_toArray, List.set_cons_succ, List.set_cons_zero]
      repeat (first | (refine st_pass (by rfl) ?_; simp only [Act.put, List.setIfInBounds_toArray, List.set_cons_succ, List.set_cons_zero]) | (refine st_plain (T) (wr) rfl rfl (f := ?_) (by rfl) rfl rfl (fun w hC hG => ?_) ?_; rotate_left; (clear hG; first | (go_simp; done) | (go_simp; with_reducible rfl) | (simp [*, go_sem, ↓IntWalk.iteOmega]; done) | (simp [*, go_sem, ↓IntWalk.iteOmega]; with_reducible rfl)); simp only [Act.put, List.setIfInBounds_toArray, List.set_cons_succ, List.set_cons_zero]))
      refine st_major (T) (wr) rfl rfl (by rfl) rfl (⟨.int .i64 z, rfl⟩) (fun _ _ _ _ _ _ => trivial) (fun v w ob h => ⟨h.1.non ((Chg.refl _ _).alloc _), h.2.alloc _⟩) (fun w hC hG hS => settle_of (r2 := ?_) ?_ ?_) ?_
      rotate_left
      (first | (go_simp; done) | (go_simp; rfl))
      · refine settle_enter ((int_any g R5 bad5 _ hS.1).mono ?_)
        rintro e w6 ⟨rfl, hcur6, hc6⟩
        rw [Hq6.out] at hcur6 ⊢
        refine ⟨_, rfl, rfl, hc6.mono (fun b e => by rw [HT.out]; exact .inl e), ⟨hcur6, hS.2.chg hc6 (fun b hb e => by have := (hob b hb).1; have e : b = g := e; omega)⟩, trivial⟩
      rintro v4 hv4
      obtain rfl : v4 = .int .i64 z := hv4
      simp only [Act.put, List.setIfInBounds_toArray, List.set_cons_succ, List.set_cons_zero]
      repeat (first | (refine st_pass (by rfl) ?_; simp only [Act.put, List.setIfInBounds_toArray, List.set_cons_succ, List.set_cons_zero]) | (refine st_plain (T) (wr) rfl rfl (f := ?_) (by rfl) rfl rfl (fun w hC hG => ?_) ?_; rotate_left; (clear hG; first | (go_simp; done) | (go_simp; with_reducible rfl) | (simp [*, go_sem, ↓IntWalk.iteOmega]; done) | (simp [*, go_sem, ↓IntWalk.iteOmega]; with_reducible rfl)); simp only [Act.put, List.setIfInBounds_toArray, List.set_cons_succ, List.set_cons_zero]))
      refine st_minor T wr rfl rfl (ob := .cells #[.int .i64 y, .int .i64 z] 50) (kd := some (1, 1)) (by rfl) rfl rfl (fun w hC hG => by clear hG; go_simp; rfl) (fun g2 => ?_)
      simp only [Act.put, List.setIfInBounds_toArray, List.set_cons_succ, List.set_cons_zero]
      refine st_major (T) (wr) rfl rfl (by rfl) rfl (⟨.slice none 0 0, none, 0, 0, rfl⟩) (fun _ _ _ _ _ _ => trivial) (fun v w ob h => ⟨h.1.non ((Chg.refl _ _).alloc _), h.2.1.alloc _, h.2.2⟩) (fun w hC hG hS => ?_) ?_
      · have hB := Rds.blockN (m := 1) (size := 2) (show Blk w g2 50 #[.int .i64 y, .int .i64 z] from (hG 13 rfl).2) rfl
        refine settle_appR (K := rkM) (.tmp 99) (.tmp 107) rfl hS.2 rfl hB rfl (cellM_one (y, z)) (by omega) (by have := hC.size; have := hCr.size; omega) ?_
        intro v2 w2 h2 h3 h4
        obtain ⟨A2, c2, rfl, _⟩ := h2.open_
        refine ⟨⟨_, _, _, rfl⟩, h3.mono (fun b e => by rw [HT.out]; exact .inr e), ⟨hS.1.other h3 (fun e => by have := (hob g e).1; omega) (fun b h e => by have := (hob b e).1; have h : b < lo := h; omega), ?_, fun b hb => ?_⟩, trivial⟩
        · rw [mv_snoc]; exact h2
        · rcases h4 with h4 | h4
          · exact .inl (h4 ▸ hb)
          · rw [h4] at hb
            obtain rfl := Option.some.inj hb
            exact .inr hC.size
      · rintro v5 ⟨A5, n5, c5, rfl⟩
        simp only [Act.put, List.setIfInBounds_toArray, List.set_cons_succ, List.set_cons_zero]
        repeat (first | (refine st_pass (by rfl) ?_; simp only [Act.put, List.setIfInBounds_toArray, List.set_cons_succ, List.set_cons_zero]) | (refine st_plain (T) (wr) rfl rfl (f := ?_) (by rfl) rfl rfl (fun w hC hG => ?_) ?_; rotate_left; (clear hG; first | (go_simp; done) | (go_simp; with_reducible rfl) | (simp [*, go_sem, ↓IntWalk.iteOmega]; done) | (simp [*, go_sem, ↓IntWalk.iteOmega]; with_reducible rfl)); simp only [Act.put, List.setIfInBounds_toArray, List.set_cons_succ, List.set_cons_zero]))
        refine st_tail T wr rfl rfl rfl (fun w7 hC7 hS7 _ => ?_)
        simp only [List.drop_succ_cons, List.drop_zero]
        obtain ⟨hcur7, ho7, hob7⟩ := hS7
        obtain rfl : n5 = m + 1 := by
          obtain ⟨A6, c6, e, _⟩ := OwnR.open_ ho7
          injection e
        have hb7 := hbr.chg hC7 hTn
        have hr7 := hrr.chg hC7 hTw
        have y10 := hb7.cell 10
        have f10 := hb7.frozen 10
        simp only [NtC, List.getElem?_toArray, List.getElem?_cons_zero, List.getElem?_cons_succ] at y10
        have hm7 : OwnR rkN w7 base (.slice A k c) k (iv o.args) := hownr.args.chg hC7 (fun b hb e => by
          rw [HT.out] at e
          rcases e with e | e
          · have := (hownr.args.lt hb).1; omega
          · exact hobm b hb e)
        have hCx : Chg (fun b => b = g ∨ b = nb ∨ base ≤ b) w w7 := hCr.trans2 hC7 (fun b e => by
          rw [HT.out] at e
          rcases e with e | e
          · exact .inl (.inl e)
          · exact .inl (.inr (.inr (hob b e).1)))
        have hSt : Chg (fun b => b = nb) w7 (w7.setCell ⟨nb, 10, none⟩ (.slice A5 (m + 1) c5)) := (Chg.refl _ _).set1 10 _
        have hb8 := hb7.put 10 (.slice A5 (m + 1) c5)
        simp only [List.setIfInBounds_toArray, List.set_cons_succ, List.set_cons_zero] at hb8
        have ho8 := ho7.chg hSt (fun b hb e => by
          have e : b = nb := e
          subst e
          rcases hob7 b hb with e2 | e2
          · exact hobn b e2 rfl
          · have := hb7.lt; have := hCr.size; have := hbr.lt; omega)
        have hm8 := hm7.chg hSt (fun b hb e => hm7.apart hb7 (by decide) (by rw [hb, show b = nb from e]))
        have hr8 := hr7.chg hSt (fun e => by have e : w.heap.size = nb := e; omega)
        have hcur8 := CurP.other hcur7 hSt (fun e => by have e : g = nb := e; omega) (fun b h e => by have e : b = nb := e; have h : b < lo := h; omega)
        have hC8 := hCx.trans (hSt.mono (fun b e => .inr (.inl e)))
        have hrel : RelM w lo base g nb { o with vep := x } R3 bad3 N (.int .i64 ((j + 1 : Nat) : Int)) (w7.setCell ⟨nb, 10, none⟩ (.slice A5 (m + 1) c5)) := by
          refine ⟨j + 1, by omega, rfl, A, k, c, A5, m + 1, c5, ?_, ?_, ?_, hr8, hC8⟩
          · rw [Hsn.out]; exact hb8
          · rw [Hsn.out]
            refine ⟨⟨hownr.ok.kind, hownr.ok.node, hownr.ok.life, hownr.ok.epoch, hownr.ok.fn, hownr.ok.args, hownr.ok.err, hownr.ok.val, hownr.ok.vep, fun q hq => ?_, hownr.ok.id⟩, hm8, by show OwnR rkM _ _ _ _ (mv (o.mems ++ (L ++ [(y, z)]))); rw [← List.append_assoc]; exact ho8⟩
            have hq : q ∈ o.mems ++ (L ++ [(y, z)]) := hq
            rw [← List.append_assoc, List.mem_append] at hq
            rcases hq with hq | hq
            · exact hownr.ok.mems q hq
            · simp only [List.mem_singleton] at hq
              rw [hq]
              exact ⟨hi4, hi5⟩
          · rw [Hsn.out]; exact hcur8
        have Hrel := Lib.hid hrel
        clear hrel hC8 hcur8 hr8 hm8 ho8 hb8 hSt hCx hm7 hr7 hb7 hob7 ho7 hcur7 hC7 k0 kx
        go_wp2_with fail
        go_roundw
        case rel => exact Hrel.out
        case measure => simp [intOf]; omega
    · obtain rfl : j = N := by omega
      clear hsn
      go_wp2_with fail
      go_end0
      have hg2 : getP (o, R, bad) 6 = ({ o with vep := x, mems := o.mems ++ L }, R4, bad4) := by
        unfold getP
        simp only [Int.reduceEq, if_false, if_true]
        rw [Hq.out]
        simp only
        rw [Hq2.out]
        simp only
        rw [HN.out, hq4]
      exact ⟨A, k, c, B, m, d, rfl, by rw [hg2]; exact hbr, by rw [hg2]; exact hownr, by rw [hg2]; exact hcurr, hCr⟩

theorem get_any (w : World) (lo base g nb : Nat) (o : Nt) (R : List UInt8) (bad : Bool) (A : Option Addr) (k c : Nat) (B : Option Addr) (m d : Nat) (hb : Blk w nb 31 (NtC o A k c B m d)) (hown : NtOwn w base o A k c B m d) (hcur : CurP (fun b => b < lo) w g R bad) (hg : g < lo) (hnb : lo ≤ nb) (hlo : lo ≤ base) (hbw : base ≤ w.heap.size) (hR : R.length ≤ 1000000) (hk : o.args.length ≤ 1000) (hm : o.mems.length ≤ 1000) (p : Int) (hp : p = 0 ∨ p = 1 ∨ p = 2 ∨ p = 3 ∨ p = 4 ∨ p = 5 ∨ p = 6) :
    Calls Try.prog 32 #[.agg #[.pointer (some ⟨g, 0, none⟩)], .pointer (some ⟨nb, 0, none⟩), .int .i64 p] w (GetPost w lo base g nb (getP (o, R, bad) p)) := by
  rcases hp with rfl | rfl | rfl | rfl | rfl | rfl | rfl
  · exact get_0 w lo base g nb o R bad A k c B m d hb hown hcur hg hnb hlo hbw
  · exact get_1 w lo base g nb o R bad A k c B m d hb hown hcur hg hnb hlo hbw
  · exact get_2 w lo base g nb o R bad A k c B m d hb hown hcur hg hnb hlo hbw
  · exact get_3 w lo base g nb o R bad A k c B m d hb hown hcur hg hnb hlo hbw hR
  · exact get_4 w lo base g nb o R bad A k c B m d hb hown hcur hg hnb hlo hbw hk
  · exact get_5 w lo base g nb o R bad A k c B m d hb hown hcur hg hnb hlo hbw
  · exact get_6 w lo base g nb o R bad A k c B m d hb hown hcur hg hnb hlo hbw hm
end Go.Proofs.Ytclpmadecibofaa
