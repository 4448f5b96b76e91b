/-
  gleanerref10.ReadNote: its state.
-/
import Derived.Test.YtclpmadecibofaaNtRefBytes
import Derived.Test.YtclpmadecibofaaNoteRefPack
import Derived.Test.YtclpmadecibofaaNoteRawP
import Derived.Test.YtclpmadecibofaaNoteReadW
namespace Go.Proofs.Ytclpmadecibofaa
open Go.RowKit
set_option linter.unusedVariables false
set_option linter.unusedSimpArgs false

theorem RCur.low {S : Nat → Prop} {w w2 : World} {g : Nat} {R : List UInt8} {bad : Bool} (h : RCur w g R bad) (hc : Chg S w w2) (hS : ∀ b, S b → g < b) : RCur w2 g R bad := by
  obtain ⟨A, n, c, B, t, hb, hr, h1, h2, h3, h4, h5⟩ := h
  refine ⟨A, n, c, B, t, hb.chg hc (fun e => by have := hS _ e; omega), ⟨hr.1, fun h0 => ?_⟩, h1, h2, h3, h4, h5⟩
  obtain ⟨ad, e, hx⟩ := hr.2 h0
  refine ⟨ad, e, fun j u hu => hc.cell (hx j u hu) fun hs => ?_⟩
  rw [block_add] at hs
  have h6 := h4 h0 ad e
  have h7 := hS _ hs
  omega
theorem RCur.badCell {w : World} {g : Nat} {R : List UInt8} {bad : Bool} (h : RCur w g R bad) : w.cell? ⟨g, 2, none⟩ = some (.bool bad) := by
  obtain ⟨A, n, c, B, t, hb, _⟩ := h
  exact hb.cell 2
/-- The note's block and its rows, the cursor, the answer's block. -/
structure RS (w0 w : World) (rb g nb : Nat) (o : Nt) (R : List UInt8) (bad : Bool) (A : Option Addr) (k c : Nat) (B : Option Addr) (m d : Nat) : Prop where
  mk_ ::
  note : Blk w nb 31 (NtC o A k c B m d)
  own : NtOwn w (nb + 1) o A k c B m d
  cur : RCur w g R bad
  res : Blk w rb 31 (NtC Nt.zero none 0 0 none 0 0)
  b1 : w0.heap.size ≤ rb
  b2 : rb < g
  b3 : g < nb
  chg : Chg Non w0 w
theorem RS.name {w0 w : World} {rb g nb : Nat} {o : Nt} {R : List UInt8} {bad : Bool} {A : Option Addr} {k c : Nat} {B : Option Addr} {m d : Nat} (h : RS w0 w rb g nb o R bad A k c B m d) : ∃ o2, o2 = o := ⟨_, rfl⟩
section
variable {w0 w w2 : World} {rb g nb : Nat} {o : Nt} {R R2 : List UInt8} {bad bad2 : Bool} {A : Option Addr} {k c : Nat} {B : Option Addr} {m d : Nat}
theorem RS.rows (h : RS w0 w rb g nb o R bad A k c B m d) : (∀ b, (Value.slice A k c).ownBlock = some b → nb < b) ∧ (∀ b, (Value.slice B m d).ownBlock = some b → nb < b) :=
  ⟨fun b e => (h.own.args.lt e).1, fun b e => (h.own.mems.lt e).1⟩
theorem RS.non (h : RS w0 w rb g nb o R bad A k c B m d) (hc : Chg Non w w2) : RS w0 w2 rb g nb o R bad A k c B m d :=
  ⟨h.note.non hc, h.own.non hc, h.cur.non hc, h.res.non hc, h.b1, h.b2, h.b3, h.chg.non hc⟩
theorem RS.call (h : RS w0 w rb g nb o R bad A k c B m d) (hcur : RCur w2 g R2 bad2) (hc : Chg (fun b => b = g) w w2) : RS w0 w2 rb g nb o R2 bad2 A k c B m d := by
  have h1 := h.b1
  have h2 := h.b2
  have h3 := h.b3
  obtain ⟨r1, r2⟩ := h.rows
  exact ⟨h.note.chg hc (fun e => by have e : nb = g := e; omega), ⟨h.own.ok, h.own.args.chg hc (fun b hb e => by have e : b = g := e; have := r1 b hb; omega), h.own.mems.chg hc (fun b hb e => by have e : b = g := e; have := r2 b hb; omega)⟩, hcur, h.res.chg hc (fun e => by have e : rb = g := e; omega), h1, h2, h3, h.chg.trans2 hc (fun b e => .inr (by have e : b = g := e; omega))⟩
theorem RS.put (h : RS w0 w rb g nb o R bad A k c B m d) (i : Nat) (v : Value) (o2 : Nt) (hN : (NtC o A k c B m d).setIfInBounds i v = NtC o2 A k c B m d) (hok : o2.ok) (ha : o2.args = o.args) (hm : o2.mems = o.mems) : RS w0 (w.setCell ⟨nb, i, none⟩ v) rb g nb o2 R bad A k c B m d := by
  have h1 := h.b1
  have h2 := h.b2
  have h3 := h.b3
  have hSt : Chg (fun b => b = nb) w (w.setCell ⟨nb, i, none⟩ v) := (Chg.refl _ _).set1 i _
  have hs := h.own.side h.note hSt
  refine ⟨hN ▸ h.note.put i v, ⟨hok, by rw [ha]; exact hs.args, by rw [hm]; exact hs.mems⟩, h.cur.low hSt (fun b e => by have e : b = nb := e; omega), h.res.chg hSt (fun e => by have e : rb = nb := e; omega), h1, h2, h3, h.chg.trans2 hSt (fun b e => .inr (by have e : b = nb := e; omega))⟩
theorem RS.put_node (h : RS w0 w rb g nb o R bad A k c B m d) {z : Int} (hv : i64 z) : RS w0 (w.setCell ⟨nb, 1, none⟩ (.int .i64 z)) rb g nb { o with node := z } R bad A k c B m d := h.put 1 _ _ rfl ⟨h.own.ok.kind, hv, h.own.ok.life, h.own.ok.epoch, h.own.ok.fn, h.own.ok.args, h.own.ok.err, h.own.ok.val, h.own.ok.vep, h.own.ok.mems, h.own.ok.id⟩ rfl rfl
theorem RS.put_life (h : RS w0 w rb g nb o R bad A k c B m d) {z : Int} (hv : i64 z) : RS w0 (w.setCell ⟨nb, 2, none⟩ (.int .i64 z)) rb g nb { o with life := z } R bad A k c B m d := h.put 2 _ _ rfl ⟨h.own.ok.kind, h.own.ok.node, hv, h.own.ok.epoch, h.own.ok.fn, h.own.ok.args, h.own.ok.err, h.own.ok.val, h.own.ok.vep, h.own.ok.mems, h.own.ok.id⟩ rfl rfl
theorem RS.put_epoch (h : RS w0 w rb g nb o R bad A k c B m d) {z : Int} (hv : i64 z) : RS w0 (w.setCell ⟨nb, 3, none⟩ (.int .i64 z)) rb g nb { o with epoch := z } R bad A k c B m d := h.put 3 _ _ rfl ⟨h.own.ok.kind, h.own.ok.node, h.own.ok.life, hv, h.own.ok.fn, h.own.ok.args, h.own.ok.err, h.own.ok.val, h.own.ok.vep, h.own.ok.mems, h.own.ok.id⟩ rfl rfl
theorem RS.put_fn (h : RS w0 w rb g nb o R bad A k c B m d) {z : Int} (hv : i64 z) : RS w0 (w.setCell ⟨nb, 5, none⟩ (.int .i64 z)) rb g nb { o with fn := z } R bad A k c B m d := h.put 5 _ _ rfl ⟨h.own.ok.kind, h.own.ok.node, h.own.ok.life, h.own.ok.epoch, hv, h.own.ok.args, h.own.ok.err, h.own.ok.val, h.own.ok.vep, h.own.ok.mems, h.own.ok.id⟩ rfl rfl
theorem RS.put_err (h : RS w0 w rb g nb o R bad A k c B m d) {z : Int} (hv : i64 z) : RS w0 (w.setCell ⟨nb, 7, none⟩ (.int .i64 z)) rb g nb { o with err := z } R bad A k c B m d := h.put 7 _ _ rfl ⟨h.own.ok.kind, h.own.ok.node, h.own.ok.life, h.own.ok.epoch, h.own.ok.fn, h.own.ok.args, hv, h.own.ok.val, h.own.ok.vep, h.own.ok.mems, h.own.ok.id⟩ rfl rfl
theorem RS.put_val (h : RS w0 w rb g nb o R bad A k c B m d) {z : Int} (hv : i64 z) : RS w0 (w.setCell ⟨nb, 8, none⟩ (.int .i64 z)) rb g nb { o with val := z } R bad A k c B m d := h.put 8 _ _ rfl ⟨h.own.ok.kind, h.own.ok.node, h.own.ok.life, h.own.ok.epoch, h.own.ok.fn, h.own.ok.args, h.own.ok.err, hv, h.own.ok.vep, h.own.ok.mems, h.own.ok.id⟩ rfl rfl
theorem RS.put_vep (h : RS w0 w rb g nb o R bad A k c B m d) {z : Int} (hv : i64 z) : RS w0 (w.setCell ⟨nb, 9, none⟩ (.int .i64 z)) rb g nb { o with vep := z } R bad A k c B m d := h.put 9 _ _ rfl ⟨h.own.ok.kind, h.own.ok.node, h.own.ok.life, h.own.ok.epoch, h.own.ok.fn, h.own.ok.args, h.own.ok.err, h.own.ok.val, hv, h.own.ok.mems, h.own.ok.id⟩ rfl rfl
theorem RS.put_kind (h : RS w0 w rb g nb o R bad A k c B m d) {z : Int} (hv : i64 z) : RS w0 (w.setCell ⟨nb, 0, none⟩ (.int .i64 z)) rb g nb { o with kind := z } R bad A k c B m d := h.put 0 _ _ rfl ⟨hv, h.own.ok.node, h.own.ok.life, h.own.ok.epoch, h.own.ok.fn, h.own.ok.args, h.own.ok.err, h.own.ok.val, h.own.ok.vep, h.own.ok.mems, h.own.ok.id⟩ rfl rfl
theorem RS.put_id (h : RS w0 w rb g nb o R bad A k c B m d) {z : ByteArray} (hv : z.size ≤ maxLen) : RS w0 (w.setCell ⟨nb, 4, none⟩ (.string z)) rb g nb { o with id := z } R bad A k c B m d := h.put 4 _ _ rfl ⟨h.own.ok.kind, h.own.ok.node, h.own.ok.life, h.own.ok.epoch, h.own.ok.fn, h.own.ok.args, h.own.ok.err, h.own.ok.val, h.own.ok.vep, h.own.ok.mems, hv⟩ rfl rfl
theorem RS.other (h : RS w0 w rb g nb o R bad A k c B m d) {q : Nat} (hc : Chg (fun b => b = q) w w2) (hq : nb < q) (h4 : ∀ b, (Value.slice A k c).ownBlock = some b → b ≠ q) (h5 : ∀ b, (Value.slice B m d).ownBlock = some b → b ≠ q) : RS w0 w2 rb g nb o R bad A k c B m d := by
  have h1 := h.b1
  have h2 := h.b2
  have h3 := h.b3
  exact ⟨h.note.chg hc (fun e => by have e : nb = q := e; omega), ⟨h.own.ok, h.own.args.chg hc (fun b hb e => h4 b hb e), h.own.mems.chg hc (fun b hb e => h5 b hb e)⟩, h.cur.low hc (fun b e => by have e : b = q := e; omega), h.res.chg hc (fun e => by have e : rb = q := e; omega), h1, h2, h3, h.chg.trans2 hc (fun b e => .inr (by have e : b = q := e; omega))⟩
theorem RS.apart (h : RS w0 w rb g nb o R bad A k c B m d) : ∀ b, (Value.slice A k c).ownBlock = some b → (Value.slice B m d).ownBlock = some b → False := by
  intro b hb e
  rcases h.own.mems.2 with ⟨h, _⟩ | ⟨g2, cap, cur, h9, _, hh, _⟩
  · rw [h] at e; simp [Value.ownBlock] at e
  · rw [h9] at e
    have : g2 = b := by simpa [Value.ownBlock] using e
    subst this
    exact h.own.args.apart (t := rkM.e) hh (by decide) hb
theorem RS.appA (h : RS w0 w rb g nb o R bad A k c B m d) (hc : Chg (fun b => b = g ∨ (Value.slice A k c).ownBlock = some b) w w2) (hcur : RCur w2 g R2 bad2) {A5 : Option Addr} {k5 c5 : Nat} {l2 : List Int} (ho : OwnR rkN w2 (nb + 1) (.slice A5 k5 c5) k5 (iv l2)) (hob : ∀ b, (Value.slice A5 k5 c5).ownBlock = some b → (Value.slice A k c).ownBlock = some b ∨ w.heap.size ≤ b) (hl : ∀ x ∈ l2, i64 x) :
    RS w0 (w2.setCell ⟨nb, 6, none⟩ (.slice A5 k5 c5)) rb g nb { o with args := l2 } R2 bad2 A5 k5 c5 B m d := by
  have h1 := h.b1
  have h2 := h.b2
  have h3 := h.b3
  have hnl := h.note.lt
  obtain ⟨r1, r2⟩ := h.rows
  have hno : ∀ b, b < nb + 1 → b ≠ g → ¬ (b = g ∨ (Value.slice A k c).ownBlock = some b) := by
    rintro b hb hg (e | e)
    · exact hg e
    · have := r1 b e; omega
  have hn2 := h.note.chg hc (hno nb (by omega) (by omega))
  have hr2 := h.res.chg hc (hno rb (by omega) (by omega))
  have hm2 := h.own.mems.chg hc (fun b hb e => by
    rcases e with e | e
    · have := r2 b hb; omega
    · exact h.apart b e hb)
  have hSt : Chg (fun b => b = nb) w2 (w2.setCell ⟨nb, 6, none⟩ (.slice A5 k5 c5)) := (Chg.refl _ _).set1 6 _
  have hp := hn2.put 6 (.slice A5 k5 c5)
  refine ⟨hp, ⟨⟨h.own.ok.kind, h.own.ok.node, h.own.ok.life, h.own.ok.epoch, h.own.ok.fn, hl, h.own.ok.err, h.own.ok.val, h.own.ok.vep, h.own.ok.mems, h.own.ok.id⟩, ho.chg hSt (fun b hb e => ?_), hm2.chg hSt (fun b hb e => ?_)⟩, hcur.low hSt (fun b e => by have e : b = nb := e; omega), hr2.chg hSt (fun e => by have e : rb = nb := e; omega), h1, h2, h3, ?_⟩
  · have e : b = nb := e
    rcases hob b hb with e2 | e2
    · have := r1 b e2; omega
    · omega
  · have e : b = nb := e
    have := r2 b hb
    omega
  · refine (h.chg.trans2 hc (fun b e => .inr ?_)).trans2 hSt (fun b e => .inr (by have e : b = nb := e; omega))
    rcases e with e | e
    · omega
    · have := r1 b e; omega
theorem RS.appM (h : RS w0 w rb g nb o R bad A k c B m d) (hc : Chg (fun b => (Value.slice B m d).ownBlock = some b) w w2) {A5 : Option Addr} {k5 c5 : Nat} {l2 : List Mb} (ho : OwnR rkM w2 (nb + 1) (.slice A5 k5 c5) k5 (mv l2)) (hob : ∀ b, (Value.slice A5 k5 c5).ownBlock = some b → (Value.slice B m d).ownBlock = some b ∨ w.heap.size ≤ b) (hl : ∀ x ∈ l2, i64 x.1 ∧ i64 x.2) :
    RS w0 (w2.setCell ⟨nb, 10, none⟩ (.slice A5 k5 c5)) rb g nb { o with mems := l2 } R bad A k c A5 k5 c5 := by
  have h1 := h.b1
  have h2 := h.b2
  have h3 := h.b3
  have hnl := h.note.lt
  obtain ⟨r1, r2⟩ := h.rows
  have hno : ∀ b, b < nb + 1 → ¬ (Value.slice B m d).ownBlock = some b := by
    intro b hb e
    have := r2 b e
    omega
  have hn2 := h.note.chg hc (hno nb (by omega))
  have hr2 := h.res.chg hc (hno rb (by omega))
  have ha2 := h.own.args.chg hc (fun b hb e => h.apart b hb e)
  have hcu := h.cur.low hc (fun b e => by have := r2 b e; omega)
  have hSt : Chg (fun b => b = nb) w2 (w2.setCell ⟨nb, 10, none⟩ (.slice A5 k5 c5)) := (Chg.refl _ _).set1 10 _
  have hp := hn2.put 10 (.slice A5 k5 c5)
  refine ⟨hp, ⟨⟨h.own.ok.kind, h.own.ok.node, h.own.ok.life, h.own.ok.epoch, h.own.ok.fn, h.own.ok.args, h.own.ok.err, h.own.ok.val, h.own.ok.vep, hl, h.own.ok.id⟩, ha2.chg hSt (fun b hb e => ?_), ho.chg hSt (fun b hb e => ?_)⟩, hcu.low hSt (fun b e => by have e : b = nb := e; omega), hr2.chg hSt (fun e => by have e : rb = nb := e; omega), h1, h2, h3, ?_⟩
  · have e : b = nb := e
    have := r1 b hb
    omega
  · have e : b = nb := e
    rcases hob b hb with e2 | e2
    · have := r2 b e2; omega
    · omega
  · exact (h.chg.trans2 hc (fun b e => .inr (by have := r2 b e; omega))).trans2 hSt (fun b e => .inr (by have e : b = nb := e; omega))
end
/-- The rounds over the arguments. -/
def RelQ (w0 : World) (rb g nb : Nat) (o : Nt) (R0 : List UInt8) (b0 : Bool) (N : Nat) (i : Value) (wr : World) : Prop :=
  ∃ (j : Nat) (Rj : List UInt8) (bj : Bool) (la : List Int) (A : Option Addr) (k c : Nat) (B : Option Addr) (m d : Nat), j ≤ N ∧ i = .int .i64 j ∧ RS w0 wr rb g nb { o with args := la } Rj bj A k c B m d ∧ la.length ≤ j ∧ lpI N R0 b0 = (la ++ (lpI (N - j) Rj bj).1, (lpI (N - j) Rj bj).2)
/-- The rounds over the members. -/
def RelP (w0 : World) (rb g nb : Nat) (o : Nt) (R0 : List UInt8) (b0 : Bool) (N : Nat) (i : Value) (wr : World) : Prop :=
  ∃ (j : Nat) (Rj : List UInt8) (bj : Bool) (la : List Mb) (A : Option Addr) (k c : Nat) (B : Option Addr) (m d : Nat), j ≤ N ∧ i = .int .i64 j ∧ RS w0 wr rb g nb { o with mems := la } Rj bj A k c B m d ∧ la.length ≤ j ∧ lpM N R0 b0 = (la ++ (lpM (N - j) Rj bj).1, (lpM (N - j) Rj bj).2)
theorem lpI_end {N j : Nat} {R0 Rj : List UInt8} {b0 bj : Bool} {la : List Int} (h : lpI N R0 b0 = (la ++ (lpI (N - j) Rj bj).1, (lpI (N - j) Rj bj).2)) (hj : j ≤ N) (hb : ¬ (j < N ∧ bj = false)) : lpI N R0 b0 = (la, Rj, bj) := by
  rw [h]
  cases bj with
  | true => rw [lpI_stop]; simp
  | false =>
    have : N - j = 0 := by
      have : ¬ j < N := fun h2 => hb ⟨h2, rfl⟩
      omega
    rw [this]
    simp [lpI]
theorem lpM_end {N j : Nat} {R0 Rj : List UInt8} {b0 bj : Bool} {la : List Mb} (h : lpM N R0 b0 = (la ++ (lpM (N - j) Rj bj).1, (lpM (N - j) Rj bj).2)) (hj : j ≤ N) (hb : ¬ (j < N ∧ bj = false)) : lpM N R0 b0 = (la, Rj, bj) := by
  rw [h]
  cases bj with
  | true => rw [lpM_stop]; simp
  | false =>
    have : N - j = 0 := by
      have : ¬ j < N := fun h2 => hb ⟨h2, rfl⟩
      omega
    rw [this]
    simp [lpM]
theorem lpI_go {N j : Nat} {R0 Rj : List UInt8} {b0 : Bool} {la : List Int} {y : Int} {R5 : List UInt8} {b5 : Bool} (h : lpI N R0 b0 = (la ++ (lpI (N - j) Rj false).1, (lpI (N - j) Rj false).2)) (hj : j < N) (hq : cInt Rj false = (y, R5, b5)) : lpI N R0 b0 = ((la ++ [y]) ++ (lpI (N - (j + 1)) R5 b5).1, (lpI (N - (j + 1)) R5 b5).2) := by
  rw [h, show N - j = (N - (j + 1)) + 1 by omega, lpI_step, hq]
  simp
theorem lpM_go {N j : Nat} {R0 Rj : List UInt8} {b0 : Bool} {la : List Mb} {y z : Int} {R5 R6 : List UInt8} {b5 b6 : Bool} (h : lpM N R0 b0 = (la ++ (lpM (N - j) Rj false).1, (lpM (N - j) Rj false).2)) (hj : j < N) (hq : cInt Rj false = (y, R5, b5)) (hq2 : cInt R5 b5 = (z, R6, b6)) : lpM N R0 b0 = ((la ++ [(y, z)]) ++ (lpM (N - (j + 1)) R6 b6).1, (lpM (N - (j + 1)) R6 b6).2) := by
  rw [h, show N - j = (N - (j + 1)) + 1 by omega, lpM_step, hq]
  simp only
  rw [hq2]
  simp
end Go.Proofs.Ytclpmadecibofaa
