/-
  gleanerref4.(*all).do, whatever the name; entries stored whole; the sort's rounds. Plain but for the first.
-/
import Derived.Test.YteinbdifncdaiaaTdDeepAll
namespace Go.Proofs.Yteinbdifncdaiaa
open Go.RowKit
set_option linter.unusedVariables false
set_option linter.unusedSimpArgs false

theorem do_any (w0 : World) (kb : Nat) (j : Jb) (dA : Option Addr) (dc : Nat) (R : List DRow) (hk : KnAt w0 kb j dA dc R) (ab : Nat) : ∀ (n : Nat) (id : ByteArray), vid id = true → id.size + n = 12 → DoC w0 kb ab id
  | 0, id, hv, hn => do_step w0 kb j dA dc R hk ab id hv (fun id2 h2 hs => by have := vid_small h2; omega)
  | n + 1, id, hv, hn => do_step w0 kb j dA dc R hk ab id hv (fun id2 h2 hs => do_any w0 kb j dA dc R hk ab n id2 h2 (by omega))

theorem exec_storeM {P : Program} {o : Oper} {a : Act} {w : World} {ty : TypeId} (x y : Operand) (ho : o.op = .store ty x y) {g off : Nat} {cs : Array Value} (hx : a.eval x = .pointer (some ⟨g, off, none⟩)) (hy : a.eval y = .agg cs) (hb : w.there g off cs.size)
    (hi : (P.info? ty).map (·.size) = some cs.size) (h1 : cs.all (·.oneCell') = true) : (execOp a.eval o).run P w = .ok .skip (w.setCells g off cs.toList) := by
  unfold execOp
  simp only [ho, hx, hy, Instr.storeAt, Instr.sureAddr, Sem.run_bind, Sem.run_pure, Result.andThen_ok, run_storeVar_mid w g off ty cs hb hi h1]
theorem last_storeM {P : Program} {o : Oper} {a : Act} {w : World} {ty : TypeId} {R : World → Prop} (x y : Operand) (ho : o.op = .store ty x y) {g off : Nat} {cs : Array Value} (hx : a.eval x = .pointer (some ⟨g, off, none⟩)) (hy : a.eval y = .agg cs) (hb : w.there g off cs.size)
    (hi : (P.info? ty).map (·.size) = some cs.size) (h1 : cs.all (·.oneCell') = true) (h : ∀ w2, w.setCells g off cs.toList = w2 → R w2) : ∃ w2, (execOp a.eval o).run P w = .ok .skip w2 ∧ R w2 :=
  ⟨_, exec_storeM x y ho hx hy hb hi h1, h _ rfl⟩
theorem wpList_storeM {P : Program} {ops : Array Oper} {rest : List Oper} {o : Oper} {a : Act} {Q : Exit → Act → World → Prop} {w : World} {ty : TypeId} (hgd : o.guard = none) (x y : Operand) (ho : o.op = .store ty x y) {g off : Nat} {cs : Array Value} (hx : a.eval x = .pointer (some ⟨g, off, none⟩)) (hy : a.eval y = .agg cs) (hb : w.there g off cs.size)
    (hi : (P.info? ty).map (·.size) = some cs.size) (h1 : cs.all (·.oneCell') = true) (h : ∀ w2, w.setCells g off cs.toList = w2 → wpList P ops Q rest (a.put o.dst undef) w2) : wpList P ops Q (o :: rest) a w := by
  refine wpList_plain hgd fun K' hK' => ?_
  unfold Oper.wp
  rw [exec_storeM x y ho hx hy hb hi h1]
  exact hK' _ _ (h _ rfl)
/-- A region at whose end things are stored, of which a move may stand on either side of the first store. -/
theorem y_region_move {P : Program} (d tl jf : Nat) (T : Nat → Prop) (majs mins : List Nat) (post keep : Nat → List Value → Value → World → Prop) (shape : Nat → List Value → Value → Prop) (S : World → Prop) {L : List Oper} {w : World} {id : Nat} {Q : Exit → Act → World → Prop} {a : Act} {oj otl : Oper} {tj : Operand}
    (hm : P.follows .mixedOrders = true) (hok : okB L.toArray majs d = true) (ht : tailB L.toArray (tl + 1) d = true) (ht0 : lastB L.toArray tl jf d = true) (hjt : jf < tl) (hoj : L[jf]? = some oj) (hotl : L[tl]? = some otl) (hjm : majs.contains jf = false) (hjn : mins.contains jf = false) (hjg : oj.guard = none) (hjx : oj.op = .move tj) (htg : otl.guard = none)
    (hT : ∀ b, T b → b < w.heap.size) (hS : S w.drew) (hSa : ∀ w ob, S w → S (w.alloc ob))
    (h : WY P L.toArray { T := T, w0 := w, majs := majs, mins := mins, post := post, keep := keep, shape := shape, tl := tl, E := fun a w => ∃ w2, (execOp a.eval otl).run P w = .ok .skip w2 ∧ wpList P L.toArray Q (L.drop (tl + 1)) (a.put otl.dst undef) w2 } (fun a w => Q .normal a w) 0 L [] S (fun _ _ => True) a) : (Code.region id L.toArray true).wp P Q a w := by
  refine wp_region_RF (p := { T := T, w0 := w, majs := majs, mins := mins, post := post, keep := keep, shape := shape, tl := tl, E := fun a w => ∃ w2, (execOp a.eval otl).run P w = .ok .skip w2 ∧ wpList P L.toArray Q (L.drop (tl + 1)) (a.put otl.dst undef) w2 }) (oj := oj) (otl := otl) d jf hm hok ht ht0 hjt (by simpa using hoj) (by simpa using hotl) hjm hjn (fun a => by unfold Region.wanted; rw [hjg]) (fun a f w w2 h => ?_) (fun a w h => ⟨by unfold Region.wanted; rw [htg], ?_⟩) rfl hT S hS hSa ?_
  · unfold execOp at h ⊢
    rw [hjx] at h ⊢
    simpa [go_sem] using h
  · obtain ⟨w2, h1, h2⟩ := h
    refine ⟨w2, h1, ?_⟩
    have e := wpOps_eq_wpList (P := P) (ops := L.toArray) (Q := Q) (L.drop (tl + 1)) (tl + 1) (fun j => by simp)
    rw [List.length_drop] at e
    rw [List.size_toArray, e]
    exact h2
  · have := wpR_of_X L 0 [] S (fun _ _ => True) a (by simp) h.out
    rw [List.range_eq_range']
    simpa using this

/-- An entry written whole over another one. -/
theorem OwnR.putW {w : World} {base g n c : Nat} {L : List Ent} (h : OwnR rkE w base (.slice (some ⟨g, 0, none⟩) n c) n (evs L)) {k : Nat} {x : Ent} (y : Ent) (hx : L[k]? = some x) : OwnR rkE (w.setCells g (k * 8) (entC y)) base (.slice (some ⟨g, 0, none⟩) n c) n (evs (L.set k y)) := by
  have hk := (List.getElem?_eq_some_iff.1 hx).1
  have hg : ∀ z : Ent, (L.set k z)[k]? = some z := fun z => List.getElem?_set_self hk
  have h0 := OwnR.putN (K := rkE) entC_len h { x with id := y.id } hx (j := 0) (u := .string y.id) (by decide) rfl
  have h1 := OwnR.putN (K := rkE) entC_len h0 { x with id := y.id, fn := y.fn } (hg _) (j := 1) (u := .int .i64 y.fn) (by decide) rfl
  rw [List.set_set] at h1
  have h2 := OwnR.putN (K := rkE) entC_len h1 { x with id := y.id, fn := y.fn, gA := y.gA, gn := y.gn, gc := y.gc } (hg _) (j := 2) (u := .slice y.gA y.gn y.gc) (by decide) rfl
  rw [List.set_set] at h2
  have h3 := OwnR.putN (K := rkE) entC_len h2 { x with id := y.id, fn := y.fn, gA := y.gA, gn := y.gn, gc := y.gc, err := y.err } (hg _) (j := 3) (u := .int .i64 y.err) (by decide) rfl
  rw [List.set_set] at h3
  have h4 := OwnR.putN (K := rkE) entC_len h3 { x with id := y.id, fn := y.fn, gA := y.gA, gn := y.gn, gc := y.gc, err := y.err, val := y.val } (hg _) (j := 4) (u := .int .i64 y.val) (by decide) rfl
  rw [List.set_set] at h4
  have h5 := OwnR.putN (K := rkE) entC_len h4 { x with id := y.id, fn := y.fn, gA := y.gA, gn := y.gn, gc := y.gc, err := y.err, val := y.val, steps := y.steps } (hg _) (j := 5) (u := .int .i64 y.steps) (by decide) rfl
  rw [List.set_set] at h5
  have h6 := OwnR.putN (K := rkE) entC_len h5 { x with id := y.id, fn := y.fn, gA := y.gA, gn := y.gn, gc := y.gc, err := y.err, val := y.val, steps := y.steps, kids := y.kids } (hg _) (j := 6) (u := .int .i64 y.kids) (by decide) rfl
  rw [List.set_set] at h6
  have h7 := OwnR.putN (K := rkE) entC_len h6 y (hg _) (j := 7) (u := .slice y.aA y.an y.ac) (by decide) rfl
  rw [List.set_set] at h7
  exact h7
/-- An entry that reads as it should, apart from the object and the row. -/
def EntIn (wx : World) (ab : Nat) (eA : Option Addr) (x : Ent) : Prop := EntOk wx x ∧ (0 < x.an → ∀ b, RowB x.aA b → b < wx.heap.size ∧ b ≠ ab ∧ ¬ RowB eA b)
theorem AllAt.store {w0 wx : World} {kb ab g : Nat} {E : List Ent} {over : Bool} {en ec : Nat} (h : AllAt w0 kb ab E over (some ⟨g, 0, none⟩) en ec wx) {k : Nat} {z : Ent} (hk : k < E.length) (hz : EntIn wx ab (some ⟨g, 0, none⟩) z) :
    AllAt w0 kb ab (E.set k z) over (some ⟨g, 0, none⟩) en ec (wx.setCells g (k * 8) (entC z)) ∧ ∀ y, EntIn wx ab (some ⟨g, 0, none⟩) y → EntIn (wx.setCells g (k * 8) (entC z)) ab (some ⟨g, 0, none⟩) y := by
  have hc : Chg (fun b => b = g) wx (wx.setCells g (k * 8) (entC z)) := Chg.sets (S := fun b => b = g) (.inl rfl) _ _ _ (Chg.refl _ _)
  have hg : w0.heap.size ≤ g := (h.own.lt (g := g) rfl).1
  have key : ∀ y, EntIn wx ab (some ⟨g, 0, none⟩) y → EntIn (wx.setCells g (k * 8) (entC z)) ab (some ⟨g, 0, none⟩) y := fun y hy => by
    refine ⟨hy.1.an_pos (fun h0 => hy.1.1.chg hc (fun ad e e2 => (hy.2 h0 _ ⟨ad, e, rfl⟩).2.2 ⟨_, rfl, by have e2 : ad.block = g := e2; exact e2.symm⟩)), fun h0 b hb => ?_⟩
    have := hy.2 h0 b hb
    exact ⟨Nat.lt_of_lt_of_le this.1 hc.size, this.2⟩
  refine ⟨⟨h.kn.trans2 hc (fun b e => .inr (by have e : b = g := e; omega)), h.box.chg hc (fun e => h.own.apart h.box (by decide) (by rw [show ab = g from e]; rfl)), h.ge, h.own.putW z (List.getElem?_eq_getElem hk), fun y hy => ?_⟩, key⟩
  rcases set_mem hy (List.getElem?_eq_getElem hk) with rfl | hy
  · exact key _ hz
  · exact key _ (h.ok y hy)
/-- Two entries side by side are turned around. -/
theorem AllAt.swap {w0 wx : World} {kb ab g : Nat} {A : List Ent} {z x : Ent} {B : List Ent} {over : Bool} {en ec : Nat} (h : AllAt w0 kb ab (A ++ z :: x :: B) over (some ⟨g, 0, none⟩) en ec wx) :
    AllAt w0 kb ab (A ++ x :: z :: B) over (some ⟨g, 0, none⟩) en ec ((wx.setCells g (A.length * 8) (entC x)).setCells g ((A.length + 1) * 8) (entC z)) := by
  obtain ⟨h1, k1⟩ := h.store (k := A.length) (z := x) (by simp) (h.ok x (by simp))
  obtain ⟨h2, _⟩ := h1.store (k := A.length + 1) (z := z) (by simp) (k1 z (h.ok z (by simp)))
  have e : ((A ++ z :: x :: B).set A.length x).set (A.length + 1) z = A ++ x :: z :: B := by
    rw [List.set_append_right _ _ (Nat.le_refl _), Nat.sub_self, List.set_append_right _ _ (by omega), show A.length + 1 - A.length = 1 by omega]
    rfl
  rw [e] at h2
  exact h2
theorem AllAt.there {w0 wx : World} {kb ab g : Nat} {E : List Ent} {over : Bool} {en ec : Nat} (h : AllAt w0 kb ab E over (some ⟨g, 0, none⟩) en ec wx) {k : Nat} (hk : k < en) : wx.there g (k * 8) 8 := OwnR.there (K := rkE) h.own hk
end Go.Proofs.Yteinbdifncdaiaa
