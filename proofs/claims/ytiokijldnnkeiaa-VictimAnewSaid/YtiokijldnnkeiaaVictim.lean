/-
  draw, victim: a picker as plain Lean; its calls.
-/
import Derived.Test.YtiokijldnnkeiaaGraphLines
namespace Go.Proofs.Ytiokijldnnkeiaa
open Go.RowKit
set_option linter.unusedVariables false
set_option linter.unusedSimpArgs false

theorem and32 (x : Int) : bits .and .i64 x 4294967295 = x % 4294967296 := by
  show IntKind.i64.wrap ((BitVec.ofInt 64 x &&& BitVec.ofInt 64 4294967295).toNat : Int) = _
  rw [BitVec.toNat_and, show (BitVec.ofInt 64 4294967295).toNat = 2 ^ 32 - 1 from rfl, Nat.and_two_pow_sub_one_eq_mod, BitVec.toNat_ofInt, IntKind.wrap_i64]
  omega
def drawS (st : Int) : Int := (st * 1664525 + 1013904223) % 4294967296
theorem drawS_bd (st : Int) : 0 ≤ drawS st ∧ drawS st < 4294967296 := by unfold drawS; omega
/-- A draw below n. -/
def drawN (st n : Int) : Int := (drawS st / 256) % n

set_option maxRecDepth 100000 in
theorem draw_any (w : World) (g : Nat) (t : TypeId) (st n : Int) (cs : List Value) (hb : Blk w g t (.int .i64 st :: cs).toArray) (h0 : 0 ≤ st) (h1 : st < 4294967296) (hn : 1 ≤ n) :
    Calls Try.prog 18 #[.pointer (some ⟨g, 0, none⟩), .int .i64 n] w fun e w2 => e = .returned (.int .i64 (drawN st n)) ∧ w2 = w.setCell ⟨g, 0, none⟩ (.int .i64 (drawS st)) := by
  have x0 := hb.cell 0
  have f0 := hb.frozen 0
  simp only [List.getElem?_toArray, List.getElem?_cons_zero] at x0
  have ha := and32 (st * 1664525 + 1013904223)
  have hd := drawS_bd st
  have he : (st * 1664525 + 1013904223) % 4294967296 = drawS st := rfl
  rw [he] at ha
  have y0 := (hb.put 0 (.int .i64 (drawS st))).cell 0
  simp only [List.setIfInBounds_toArray, List.set_cons_zero, List.getElem?_toArray, List.getElem?_cons_zero] at y0
  have Hd : Hid (drawN st n = (drawS st / 256) % n) := rfl
  obtain ⟨d, hde⟩ : ∃ d, drawS st = d := ⟨_, rfl⟩
  rw [hde] at ha hd y0 Hd ⊢
  obtain ⟨hd1, hd2⟩ := hd
  clear he hde
  go_enter Try.func18, Try.ntmps18
  go_wp2_with fail
  go_ret
  exact ⟨by rw [Hd.out]; rfl, rfl⟩
theorem from_any (seed : Int) (w : World) : Calls Try.prog 16 #[.int .i64 seed] w fun e w2 => e = .returned (.agg #[.int .i64 (seed % 4294967296)]) ∧ Chg Non w w2 := by
  have ha := and32 seed
  go_enter Try.func16, Try.ntmps16
  go_wp2_with fail
  exact bodyPost_ret (v := .agg #[.int .i64 (seed % 4294967296)]) (by simp [results, Try.results16, go_sem]) rfl ⟨rfl, (Chg.refl _ _).alloc _⟩

/-- A picker. -/
structure Pk where
  (st nodes self tries nxt : Int)
  lines : List Int
def okP (nodes self : Int) : Bool := decide (2 ≤ nodes) && decide (nodes ≤ 16) && decide (0 ≤ self) && decide (self < nodes)
theorem okP_iff {nodes self : Int} : okP nodes self = true ↔ 2 ≤ nodes ∧ nodes ≤ 16 ∧ 0 ≤ self ∧ self < nodes := by
  unfold okP
  simp only [Bool.and_eq_true, decide_eq_true_eq, and_assoc]
def newP (nodes self seed tries : Int) : Pk :=
  ⟨seed % 4294967296, nodes, self, if okP nodes self then max 0 tries else 0, 0, if okP nodes self then linesG nodes self else []⟩
/-- Who is named at random. -/
def Pk.pick (p : Pk) : Int := if drawN p.st (p.nodes - 1) < p.self then drawN p.st (p.nodes - 1) else drawN p.st (p.nodes - 1) + 1
def Pk.next (p : Pk) : Int × Pk :=
  if p.nxt < p.tries then (p.pick, { p with st := drawS p.st, nxt := p.nxt + 1 })
  else if p.nxt - p.tries < p.lines.length then ((p.lines[(p.nxt - p.tries).toNat]?).getD 0, { p with nxt := p.nxt + 1 })
  else (-1, p)
structure Pk.ok (p : Pk) : Prop where
  s0 : 0 ≤ p.st
  s1 : p.st < 4294967296
  t0 : 0 ≤ p.tries
  t1 : p.tries ≤ 9223372036854775807
  n0 : 0 ≤ p.nxt
  v : 0 < p.tries → okP p.nodes p.self = true
  l : p.lines.length ≤ 12
  x : ∀ y ∈ p.lines, 0 ≤ y ∧ y < p.nodes
theorem newP_ok (nodes self seed tries : Int) (ht : tries ≤ 9223372036854775807) : (newP nodes self seed tries).ok := by
  refine ⟨by show 0 ≤ seed % 4294967296; omega, by show seed % 4294967296 < _; omega, ?_, ?_, Int.le_refl _, ?_, ?_, ?_⟩
  · show 0 ≤ (if okP nodes self then max 0 tries else 0); split <;> omega
  · show (if okP nodes self then max 0 tries else 0) ≤ _; split <;> omega
  · show 0 < (if okP nodes self then max 0 tries else 0) → okP nodes self = true
    intro h
    cases ho : okP nodes self with
    | true => rfl
    | false => rw [ho] at h; simp at h
  · show (if okP nodes self then linesG nodes self else []).length ≤ 12
    split
    · unfold linesG
      split
      · rw [risen_len (linesK_nodup _ _ _)]
        have h1 := linesK_len nodes self (bitsN nodes)
        have h2 : bitsN nodes ≤ 12 := by unfold bitsN; have := List.length_filter_le (fun i => decide (pw i < nodes)) (List.range 12); simpa using this
        omega
      · simp
    · simp
  · show ∀ y ∈ (if okP nodes self then linesG nodes self else []), 0 ≤ y ∧ y < nodes
    intro y hy
    split at hy
    · exact linesG_mem hy
    · cases hy
/-- A picker where it lies. -/
def PkAt (w : World) (base g : Nat) (p : Pk) : Prop :=
  ∃ A n c, Blk w g 40 #[.int .i64 p.st, .int .i64 p.nodes, .int .i64 p.self, .int .i64 p.tries, .int .i64 p.nxt, .slice A n c] ∧ OwnR rkN w base (.slice A n c) n (iv p.lines) ∧ p.ok ∧ base ≤ g
theorem PkAt.lt {w : World} {base g : Nat} {p : Pk} (h : PkAt w base g p) : g < w.heap.size := by
  obtain ⟨A, n, c, h1, _⟩ := h
  exact h1.lt
theorem PkAt.non {w w2 : World} {base g : Nat} {p : Pk} (h : PkAt w base g p) (hc : Chg Non w w2) : PkAt w2 base g p := by
  obtain ⟨A, n, c, h1, h2, h3, h4⟩ := h
  exact ⟨A, n, c, h1.non hc, h2.non hc, h3, h4⟩
/-- Another block changes. -/
theorem PkAt.side {w w2 : World} {base g g2 : Nat} {p : Pk} {t : TypeId} {cs : Array Value} (h : PkAt w base g p) (hb : Blk w g2 t cs) (ht : (rkN).e ≠ t) (hne : g ≠ g2) (hc : Chg (fun b => b = g2) w w2) : PkAt w2 base g p := by
  obtain ⟨A, n, c, h1, h2, h3, h4⟩ := h
  exact ⟨A, n, c, h1.chg hc hne, h2.chg hc (fun b hb2 e => h2.apart hb ht (by rw [hb2, show b = g2 from e])), h3, h4⟩

def NewPost (w : World) (p : Pk) (e : Ending) (w2 : World) : Prop := ∃ g, e = .returned (.pointer (some ⟨g, 0, none⟩)) ∧ PkAt w2 w.heap.size g p ∧ Chg Non w w2
set_option maxRecDepth 100000 in
set_option maxHeartbeats 2000000 in
theorem new_any (w : World) (nodes self seed tries : Int) (ht : i64 tries) :
    Calls Try.prog 7 #[.int .i64 nodes, .int .i64 self, .int .i64 seed, .int .i64 tries] w (NewPost w (newP nodes self seed tries)) := by
  have hok := Lib.hid (newP_ok nodes self seed tries ht.2)
  have hmx : 0 ≤ max 0 tries ∧ max 0 tries ≤ 9223372036854775807 := by have := ht.2; omega
  have Hp : Hid (newP nodes self seed tries = ⟨seed % 4294967296, nodes, self, if okP nodes self then max 0 tries else 0, 0, if okP nodes self then linesG nodes self else []⟩) := rfl
  obtain ⟨mt, hmt⟩ : ∃ mt, max 0 tries = mt := ⟨_, rfl⟩
  rw [hmt] at hmx Hp
  obtain ⟨hm1, hm2⟩ := hmx
  obtain ⟨s0, hs0⟩ : ∃ s0, seed % 4294967296 = s0 := ⟨_, rfl⟩
  have Hs0 := Lib.hid hs0
  rw [hs0] at Hp
  clear hs0
  cases ho : okP nodes self with
  | false =>
    have hp : Hid (newP nodes self seed tries = ⟨s0, nodes, self, 0, 0, []⟩) := by show _ = _; rw [Hp.out, ho]; rfl
    have hcase : nodes < 2 ∨ (2 ≤ nodes ∧ 16 < nodes) ∨ (2 ≤ nodes ∧ nodes ≤ 16 ∧ self < 0) ∨ (2 ≤ nodes ∧ nodes ≤ 16 ∧ 0 ≤ self ∧ nodes ≤ self) := by
      have h9 : ¬ (2 ≤ nodes ∧ nodes ≤ 16 ∧ 0 ≤ self ∧ self < nodes) := fun h => by rw [okP_iff.2 h] at ho; cases ho
      omega
    clear ho Hp
    rcases hcase with h1 | ⟨h1, h2⟩ | ⟨h1, h2, h3⟩ | ⟨h1, h2, h3, h4⟩
    all_goals
      go_enter Try.func7, Try.ntmps7
      go_wp2_with fail
      refine (from_any seed w).mono ?_
      rintro e w1 ⟨rfl, hC⟩
      rw [Hs0.out]
      go_wp2_with fail
      go_ret
      refine ⟨w1.heap.size, rfl, ⟨none, 0, 0, ?_, ?_, hok.out, hC.size⟩, hC.alloc _⟩
      · rw [hp.out]; exact Blk.new _ _ _
      · rw [hp.out]; exact OwnR.nil _ _ _
  | true =>
    have hp : Hid (newP nodes self seed tries = ⟨s0, nodes, self, mt, 0, linesG nodes self⟩) := by show _ = _; rw [Hp.out, ho]; rfl
    obtain ⟨h1, h2, h3, h4⟩ := okP_iff.1 ho
    clear ho Hp
    go_enter Try.func7, Try.ntmps7
    go_wp2_with fail
    refine (from_any seed w).mono ?_
    rintro e w1 ⟨rfl, hC⟩
    rw [Hs0.out]
    go_wp2_with fail
    obtain ⟨w2, e2⟩ : ∃ wq, w1.alloc (.cells #[.int .i64 s0, .int .i64 nodes, .int .i64 self, .int .i64 mt, .int .i64 0, .slice none 0 0] 40) = wq := ⟨_, rfl⟩
    have hc2 : Chg Non w1 w2 := e2 ▸ (Chg.refl _ _).alloc _
    have hb2 : Blk w2 w1.heap.size 40 #[.int .i64 s0, .int .i64 nodes, .int .i64 self, .int .i64 mt, .int .i64 0, .slice none 0 0] := e2 ▸ Blk.new _ _ _
    rw [e2]
    clear e2
    refine (lines_any nodes self w2).mono ?_
    rintro e w3 ⟨v, n, rfl, hown, hc3⟩
    obtain ⟨A, c, rfl, _⟩ := hown.open_
    have hC3 := (hC.non hc2).non hc3
    have hb3 := hb2.non hc3
    have f5 := hb3.frozen 5
    have x5 := hb3.cell 5
    simp only [List.getElem?_toArray, List.getElem?_cons_zero, List.getElem?_cons_succ] at x5
    have hsz := hC.size
    go_wp2_with fail
    go_ret
    have hS : Chg (fun b => b = w1.heap.size) w3 (w3.setCell ⟨w1.heap.size, 5, none⟩ (.slice A n c)) := (Chg.refl _ _).set1 5 _
    have hb4 := hb3.put 5 (.slice A n c)
    simp only [List.setIfInBounds_toArray, List.set_cons_succ, List.set_cons_zero] at hb4
    have hown4 := (hown.mono (b2 := w.heap.size) (Nat.le_trans hC.size hc2.size)).chg hS (fun b hb e => hown.apart hb3 (by decide) (by rw [hb, show b = w1.heap.size from e]))
    refine ⟨w1.heap.size, rfl, ⟨A, n, c, ?_, ?_, hok.out, hC.size⟩, hC3.trans2 hS (fun b e => .inr (by have e : b = w1.heap.size := e; omega))⟩
    · rw [hp.out]; exact hb4
    · rw [hp.out]; exact hown4
end Go.Proofs.Ytiokijldnnkeiaa
