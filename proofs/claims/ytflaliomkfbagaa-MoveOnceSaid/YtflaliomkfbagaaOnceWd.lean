/-
  gleanerlaw21.world: its rows, send, drop; how it lies.
-/
import Derived.Test.YtflaliomkfbagaaRow
import Derived.Test.YtflaliomkfbagaaOncePlain
namespace Go.Proofs.Ytflaliomkfbagaa
open Go.RowKit
set_option linter.unusedVariables false
set_option linter.unusedSimpArgs false

section
variable {P : Program} {K : RowKind P} {w : World} {base n : Nat} {v : Value} {xs : List Value} {ops : Array Oper} {rest : List Oper} {o : Oper} {a : Act} {Q : Exit → Act → World → Prop}
theorem appRn (hgd : o.guard = none) (x : Operand) (ho : o.op = .call { callee := .builtin .append, args := #[.const (.slice none 0 0), x], argTypes := #[K.t, K.t] })
    {A : Option Addr} {m c : Nat} {news : List Value} (hr : Rds w K.size A m news) (hx : a.eval x = .slice A m c) (h1 : ∀ u ∈ news, u.oneCell' = true) (hb : m ≤ 1099511627776)
    (h : ∀ A2 c2 w2, OwnR K w2 w.heap.size (.slice A2 m c2) m news → Chg Non w w2 → wpList P ops Q rest (a.put o.dst (.slice A2 m c2)) w2) : wpList P ops Q (o :: rest) a w := by
  refine appR hgd _ x ho (OwnR.nil K w w.heap.size) rfl hr hx h1 (by omega) (Nat.le_refl _) fun v2 w2 h2 h3 _ => ?_
  simp only [Nat.zero_add, List.nil_append] at h2
  obtain ⟨A2, c2, rfl, _⟩ := h2.open_
  exact h A2 c2 w2 h2 (h3.mono fun _ e => by cases e)
theorem appRs (hgd : o.guard = none) (s x : Operand) (ho : o.op = .call { callee := .builtin .append, args := #[s, x], argTypes := #[K.t, K.t] })
    (hown : OwnR K w base v n xs) (hs : a.eval s = v) {A : Option Addr} {m c : Nat} {news : List Value} (hr : Rds w K.size A m news) (hx : a.eval x = .slice A m c) (h1 : ∀ u ∈ news, u.oneCell' = true)
    (hb : n + m ≤ 1099511627776) (hbase : base ≤ w.heap.size)
    (h : ∀ A2 c2 w2, OwnR K w2 base (.slice A2 (n + m) c2) (n + m) (xs ++ news) → Chg (fun g => v.ownBlock = some g) w w2 → (∀ b, (Value.slice A2 (n + m) c2).ownBlock = some b → v.ownBlock = some b ∨ w.heap.size ≤ b) → wpList P ops Q rest (a.put o.dst (.slice A2 (n + m) c2)) w2) : wpList P ops Q (o :: rest) a w := by
  refine appR hgd s x ho hown hs hr hx h1 hb hbase fun v2 w2 h2 h3 h4 => ?_
  obtain ⟨A2, c2, rfl, _⟩ := h2.open_
  refine h A2 c2 w2 h2 h3 fun b hb => ?_
  rcases h4 with h4 | h4
  · exact .inl (h4 ▸ hb)
  · rw [h4] at hb
    exact .inr (Nat.le_of_eq (Option.some.inj hb))
theorem appR1s (hgd : o.guard = none) (s x : Operand) (ho : o.op = .call { callee := .builtin .append, args := #[s, x], argTypes := #[K.t, K.t] })
    (hown : OwnR K w base v n xs) (hs : a.eval s = v) {c : Nat} {cs : Array Value} (hcs : cs.size = K.size) (hx : a.eval x = .slice (some ⟨w.heap.size, 0, none⟩) 1 c) (h1 : ∀ u ∈ cs.toList, u.oneCell' = true)
    (hb : n + 1 ≤ 1099511627776) (hbase : base ≤ w.heap.size)
    (h : ∀ A2 c2 w2, OwnR K w2 base (.slice A2 (n + 1) c2) (n + 1) (xs ++ cs.toList) → Chg (fun g => v.ownBlock = some g) w w2 → (∀ b, (Value.slice A2 (n + 1) c2).ownBlock = some b → v.ownBlock = some b ∨ w.heap.size ≤ b) → wpList P ops Q rest (a.put o.dst (.slice A2 (n + 1) c2)) w2) : wpList P ops Q (o :: rest) a (w.alloc (.cells cs K.e)) := by
  refine appR1 hgd s x ho hown hs hcs hx h1 hb hbase fun v2 w2 h2 h3 h4 => ?_
  obtain ⟨A2, c2, rfl, _⟩ := h2.open_
  refine h A2 c2 w2 h2 h3 fun b hb => ?_
  rcases h4 with h4 | h4
  · exact .inl (h4 ▸ hb)
  · rw [h4] at hb
    exact .inr (by have := Option.some.inj hb; omega)
end

def wyC (y : Wy) : List Value := [.int .i64 y.kd, .int .i64 y.node, .int .i64 y.life, .int .i64 y.epoch, .string y.id, .int .i64 0, .slice none 0 0, .int .i64 0, .int .i64 0, .int .i64 0, .slice none 0 0]
def wyV (W : List Wy) : List Value := W.flatMap wyC
theorem wyC_len (y : Wy) : (wyC y).length = 11 := rfl
theorem wyC_one (y : Wy) : ∀ u ∈ wyC y, u.oneCell' = true := by
  intro u hu
  simp only [wyC, List.mem_cons, List.not_mem_nil, or_false] at hu
  rcases hu with rfl | rfl | rfl | rfl | rfl | rfl | rfl | rfl | rfl | rfl | rfl <;> rfl
theorem wyV_one (W : List Wy) : ∀ u ∈ wyV W, u.oneCell' = true := flat_one wyC_one W
theorem wyV_snoc (W : List Wy) (y : Wy) : wyV (W ++ [y]) = wyV W ++ wyC y := flat_snoc _ _ _
abbrev rkY : RowKind Try.prog where
  t := 28
  e := 59
  z := .agg #[.int .i64 0, .int .i64 0, .int .i64 0, .int .i64 0, .string ⟨#[]⟩, .int .i64 0, .slice none 0 0, .int .i64 0, .int .i64 0, .int .i64 0, .slice none 0 0]
  size := 11
  bytes := 128
  ht := Try.underlying28
  info := by kernel_rfl
  hz := rfl
  hs := by decide
  hb := by decide
abbrev rkTk : RowKind Try.prog where
  t := 27
  e := 36
  z := .pointer none
  size := 1
  bytes := 8
  ht := Try.underlying27
  info := by kernel_rfl
  hz := rfl
  hs := by decide
  hb := by decide
theorem iv_snoc (L : List Int) (x : Int) : iv (L ++ [x]) = iv L ++ [.int .i64 x] := by simp [iv]
theorem iv_one1 (x : Int) : ∀ u ∈ (#[.int .i64 x] : Array Value).toList, u.oneCell' = true := by
  intro u hu
  simp at hu
  subst hu
  rfl

def SendPost (w : World) (base q : Nat) (gv tv nv : Value) (A : Option Addr) (n c : Nat) (A2 : Option Addr) (n2 c2 : Nat) (W : List Wy) (O : List Int) (y : Wy) (e : Ending) (w2 : World) : Prop :=
  e = .returned (.tuple #[]) ∧ ∃ A3 c3 A4 c4, Blk w2 q 32 #[gv, tv, .slice A3 (n + 1) c3, .slice A4 (n2 + 1) c4, nv] ∧ OwnR rkY w2 base (.slice A3 (n + 1) c3) (n + 1) (wyV (W ++ [y])) ∧ OwnR rkN w2 base (.slice A4 (n2 + 1) c4) (n2 + 1) (iv (O ++ [y.to])) ∧
    (∀ b, (Value.slice A3 (n + 1) c3).ownBlock = some b → (Value.slice A n c).ownBlock = some b ∨ w.heap.size ≤ b) ∧ (∀ b, (Value.slice A4 (n2 + 1) c4).ownBlock = some b → (Value.slice A2 n2 c2).ownBlock = some b ∨ w.heap.size ≤ b) ∧
    Chg (fun b => b = q ∨ (Value.slice A n c).ownBlock = some b ∨ (Value.slice A2 n2 c2).ownBlock = some b) w w2

set_option maxRecDepth 100000 in
set_option maxHeartbeats 8000000 in
theorem send_any (w : World) (base q : Nat) (gv tv nv : Value) (A : Option Addr) (n c : Nat) (A2 : Option Addr) (n2 c2 : Nat) (W : List Wy) (O : List Int) (y : Wy)
    (hb : Blk w q 32 #[gv, tv, .slice A n c, .slice A2 n2 c2, nv]) (how : OwnR rkY w base (.slice A n c) n (wyV W)) (hoo : OwnR rkN w base (.slice A2 n2 c2) n2 (iv O)) (hbase : base ≤ w.heap.size) (hn : n ≤ 1000000) (hn2 : n2 ≤ 1000000) :
    Calls Try.prog 35 #[.pointer (some ⟨q, 0, none⟩), .agg #[.int .i64 y.kd, .int .i64 y.node, .int .i64 y.life, .int .i64 y.epoch, .string y.id, .int .i64 0, .slice none 0 0, .int .i64 0, .int .i64 0, .int .i64 0, .slice none 0 0], .int .i64 y.to] w (SendPost w base q gv tv nv A n c A2 n2 c2 W O y) := by
  obtain ⟨w1, hw1⟩ : ∃ w1, w.alloc (.cells #[.int .i64 y.kd, .int .i64 y.node, .int .i64 y.life, .int .i64 y.epoch, .string y.id, .int .i64 0, .slice none 0 0, .int .i64 0, .int .i64 0, .int .i64 0, .slice none 0 0] 59) = w1 := ⟨_, rfl⟩
  have hc1 : Chg Non w w1 := hw1 ▸ (Chg.refl _ _).alloc _
  have hbN : Blk w1 w.heap.size 59 #[.int .i64 y.kd, .int .i64 y.node, .int .i64 y.life, .int .i64 y.epoch, .string y.id, .int .i64 0, .slice none 0 0, .int .i64 0, .int .i64 0, .int .i64 0, .slice none 0 0] := hw1 ▸ Blk.new _ _ _
  have Hhb := Lib.hid (hb.non hc1)
  have how1 := how.non hc1
  have Hoo := Lib.hid (hoo.non hc1)
  have hz1 := hc1.size
  have hOl : ∀ b, (Value.slice A n c).ownBlock = some b → b < w1.heap.size := fun b hb => (how1.lt hb).2
  have hON : ∀ b, (Value.slice A n c).ownBlock = some b → b ≠ w.heap.size := fun b hb e => by have := (how.lt hb).2; omega
  have hOq : ∀ b, (Value.slice A n c).ownBlock = some b → b ≠ q := fun b hb2 e => how.apart hb (by decide) (e ▸ hb2)
  have hOq2 : ∀ b, (Value.slice A2 n2 c2).ownBlock = some b → b ≠ q := fun b hb2 e => hoo.apart hb (by decide) (e ▸ hb2)
  have hap : ∀ b, (Value.slice A n c).ownBlock = some b → (Value.slice A2 n2 c2).ownBlock ≠ some b := fun b h1 h2 => by
    rcases hoo.2 with ⟨e, _⟩ | ⟨g2, cap, cur, e, _, hh, _⟩
    · rw [e] at h2; simp [Value.ownBlock] at h2
    · rw [e] at h2
      have e2 : g2 = b := by simpa [Value.ownBlock] using h2
      subst e2
      exact how.apart hh (by decide) h1
  have k2 : ∀ wx, Chg (fun b => (Value.slice A n c).ownBlock = some b) w1 wx → wx.cell? ⟨q, 2, none⟩ = some (.slice A n c) := fun wx hx => hx.cell (Hhb.out.cell 2) (fun e => hOq _ e rfl)

  have x0 : ∀ wx, Chg (fun b => (Value.slice A n c).ownBlock = some b) w1 wx → wx.cell? ⟨w.heap.size, 0, none⟩ = some (.int .i64 y.kd) := fun wx hx => hx.cell (hbN.cell 0) (fun e => hON _ e rfl)
  have x1 : ∀ wx, Chg (fun b => (Value.slice A n c).ownBlock = some b) w1 wx → wx.cell? ⟨w.heap.size, 1, none⟩ = some (.int .i64 y.node) := fun wx hx => hx.cell (hbN.cell 1) (fun e => hON _ e rfl)
  have x2 : ∀ wx, Chg (fun b => (Value.slice A n c).ownBlock = some b) w1 wx → wx.cell? ⟨w.heap.size, 2, none⟩ = some (.int .i64 y.life) := fun wx hx => hx.cell (hbN.cell 2) (fun e => hON _ e rfl)
  have x3 : ∀ wx, Chg (fun b => (Value.slice A n c).ownBlock = some b) w1 wx → wx.cell? ⟨w.heap.size, 3, none⟩ = some (.int .i64 y.epoch) := fun wx hx => hx.cell (hbN.cell 3) (fun e => hON _ e rfl)
  have x4 : ∀ wx, Chg (fun b => (Value.slice A n c).ownBlock = some b) w1 wx → wx.cell? ⟨w.heap.size, 4, none⟩ = some (.string y.id) := fun wx hx => hx.cell (hbN.cell 4) (fun e => hON _ e rfl)
  have x5 : ∀ wx, Chg (fun b => (Value.slice A n c).ownBlock = some b) w1 wx → wx.cell? ⟨w.heap.size, 5, none⟩ = some (.int .i64 0) := fun wx hx => hx.cell (hbN.cell 5) (fun e => hON _ e rfl)
  have x6 : ∀ wx, Chg (fun b => (Value.slice A n c).ownBlock = some b) w1 wx → wx.cell? ⟨w.heap.size, 6, none⟩ = some (.slice none 0 0) := fun wx hx => hx.cell (hbN.cell 6) (fun e => hON _ e rfl)
  have x7 : ∀ wx, Chg (fun b => (Value.slice A n c).ownBlock = some b) w1 wx → wx.cell? ⟨w.heap.size, 7, none⟩ = some (.int .i64 0) := fun wx hx => hx.cell (hbN.cell 7) (fun e => hON _ e rfl)
  have x8 : ∀ wx, Chg (fun b => (Value.slice A n c).ownBlock = some b) w1 wx → wx.cell? ⟨w.heap.size, 8, none⟩ = some (.int .i64 0) := fun wx hx => hx.cell (hbN.cell 8) (fun e => hON _ e rfl)
  have x9 : ∀ wx, Chg (fun b => (Value.slice A n c).ownBlock = some b) w1 wx → wx.cell? ⟨w.heap.size, 9, none⟩ = some (.int .i64 0) := fun wx hx => hx.cell (hbN.cell 9) (fun e => hON _ e rfl)
  have x10 : ∀ wx, Chg (fun b => (Value.slice A n c).ownBlock = some b) w1 wx → wx.cell? ⟨w.heap.size, 10, none⟩ = some (.slice none 0 0) := fun wx hx => hx.cell (hbN.cell 10) (fun e => hON _ e rfl)
  have hql := Hhb.out.lt
  have hnl := hbN.lt
  clear hb hoo how hbN
  go_enter Try.func35, Try.ntmps35
  go_wp2_with fail
  clear hw1
  refine st_region_tail 8 10 (fun b => (Value.slice A n c).ownBlock = some b) [7] [6] (fun _ _ v wx => OwnR rkY wx base v (n + 1) (wyV W ++ wyC y) ∧ (∀ b, v.ownBlock = some b → (Value.slice A n c).ownBlock = some b ∨ w1.heap.size ≤ b)) (fun _ _ _ _ => True) (fun _ _ v => ∃ A n c, v = .slice A n c) (fun wx => OwnR rkY wx base (.slice A n c) n (wyV W)) (by kernel_rfl) (by kernel_rfl) (by kernel_rfl) hOl how1 (fun _ _ h => h.alloc _) ?_
  repeat (first | (refine st_pass (by rfl) ?_; simp only [Act.put, List.setIfInBounds_toArray, List.set_cons_succ, List.set_cons_zero]) | (refine st_plain (fun b => (Value.slice A n c).ownBlock = some b) (w1) rfl rfl (f := ?_) (by rfl) rfl rfl (fun w hC hG => ?_) ?_; rotate_left; (clear hG; first | (go_simp; done) | (go_simp; with_reducible rfl) | (simp [*, go_sem, ↓IntWalk.iteOmega]; done) | (simp [*, go_sem, ↓IntWalk.iteOmega]; with_reducible rfl)); simp only [Act.put, List.setIfInBounds_toArray, List.set_cons_succ, List.set_cons_zero]))
  refine st_minor (fun b => (Value.slice A n c).ownBlock = some b) w1 rfl rfl (ob := .cells #[.int .i64 y.kd, .int .i64 y.node, .int .i64 y.life, .int .i64 y.epoch, .string y.id, .int .i64 0, .slice none 0 0, .int .i64 0, .int .i64 0, .int .i64 0, .slice none 0 0] 59) (kd := some (1, 1)) (by rfl) rfl rfl (fun w hC hG => by clear hG; go_simp; rfl) (fun g2 => ?_)
  simp only [Act.put, List.setIfInBounds_toArray, List.set_cons_succ, List.set_cons_zero]
  refine st_major (fun b => (Value.slice A n c).ownBlock = some b) (w1) rfl rfl (by rfl) rfl (⟨.slice none 0 0, none, 0, 0, rfl⟩) (fun _ _ _ _ _ _ => trivial) (fun v w ob h => ⟨h.1.alloc ob, h.2⟩) (fun w hC hG hS => ?_) ?_
  · have hB := Rds.blockN (m := 1) (size := 11) (show Blk _ g2 59 #[.int .i64 y.kd, .int .i64 y.node, .int .i64 y.life, .int .i64 y.epoch, .string y.id, .int .i64 0, .slice none 0 0, .int .i64 0, .int .i64 0, .int .i64 0, .slice none 0 0] from (hG 6 rfl).2) rfl
    refine settle_appR (K := rkY) (.tmp 10) (.tmp 12) rfl hS rfl hB rfl (wyC_one y) (by omega) (by have := hC.size; omega) ?_
    intro v2 w2 h2 h3 h4
    obtain ⟨A2, c2, rfl, _⟩ := h2.open_
    refine ⟨⟨_, _, _, rfl⟩, h3, ⟨h2, fun b hb => ?_⟩, trivial⟩
    rcases h4 with h4 | h4
    · exact .inl (h4 ▸ hb)
    · rw [h4] at hb
      obtain rfl := Option.some.inj hb
      exact .inr hC.size
  · rintro v4 ⟨A4, n4, c4, rfl⟩
    simp only [Act.put, List.setIfInBounds_toArray, List.set_cons_succ, List.set_cons_zero]
    repeat (first | (refine st_pass (by rfl) ?_; simp only [Act.put, List.setIfInBounds_toArray, List.set_cons_succ, List.set_cons_zero]) | (refine st_plain (fun b => (Value.slice A n c).ownBlock = some b) (w1) rfl rfl (f := ?_) (by rfl) rfl rfl (fun w hC hG => ?_) ?_; rotate_left; (clear hG; first | (go_simp; done) | (go_simp; with_reducible rfl) | (simp [*, go_sem, ↓IntWalk.iteOmega]; done) | (simp [*, go_sem, ↓IntWalk.iteOmega]; with_reducible rfl)); simp only [Act.put, List.setIfInBounds_toArray, List.set_cons_succ, List.set_cons_zero]))
    refine st_tail (fun b => (Value.slice A n c).ownBlock = some b) w1 rfl rfl rfl (fun w7 hC7 hS7 _ => ?_)
    simp only [List.drop_succ_cons, List.drop_zero]
    obtain ⟨ho7, hob7⟩ := hS7
    obtain rfl : n4 = n + 1 := by
      obtain ⟨A5, c5, e, _⟩ := ho7.open_
      injection e
    have hb7 := Hhb.out.chg hC7 (fun e => hOq _ e rfl)
    have hoo7 := Hoo.out.chg hC7 (fun b h1 h2 => hap b h2 h1)
    have f2 := hb7.frozen 2
    have c2' : w7.cell? ⟨q, 2, none⟩ = some (.slice A n c) := hb7.cell 2
    have ql := hb7.lt
    have hz7 := hC7.size
    obtain ⟨w8, hw8⟩ : ∃ w8, w7.setCell ⟨q, 2, none⟩ (.slice A4 (n + 1) c4) = w8 := ⟨_, rfl⟩
    have hS1 : Chg (fun b => b = q) w7 w8 := hw8 ▸ (Chg.refl _ _).set1 2 _
    have hb8 := hb7.put 2 (.slice A4 (n + 1) c4)
    simp only [List.setIfInBounds_toArray, List.set_cons_succ, List.set_cons_zero] at hb8
    rw [hw8] at hb8
    have hA4q : ∀ b, (Value.slice A4 (n + 1) c4).ownBlock = some b → b ≠ q := fun b hb2 e => ho7.apart hb7 (by decide) (e ▸ hb2)
    have ho8 := ho7.chg hS1 (fun b hb e => hA4q b hb e)
    have hoo8 := hoo7.chg hS1 (fun b hb e => hOq2 b hb e)
    have hz8 := hS1.size
    have Hb8 := Lib.hid hb8
    have c3' : w8.cell? ⟨q, 3, none⟩ = some (.slice A2 n2 c2) := hb8.cell 3
    have f3 := hb8.frozen 3
    have ql8 := hb8.lt
    have hC8 : Chg (fun b => b = q ∨ (Value.slice A n c).ownBlock = some b ∨ (Value.slice A2 n2 c2).ownBlock = some b) w w8 := (hc1.of_non.trans2 hC7 (fun b e => .inl (.inr (.inl e)))).trans2 hS1 (fun b e => .inl (.inl e))
    have hap8 : ∀ b, (Value.slice A2 n2 c2).ownBlock = some b → (Value.slice A4 (n + 1) c4).ownBlock ≠ some b := fun b h1 h2 => by
      rcases hoo8.2 with ⟨e, _⟩ | ⟨g2, cap, cur, e, _, hh, _⟩
      · rw [e] at h1; simp [Value.ownBlock] at h1
      · rw [e] at h1
        have e2 : g2 = b := by simpa [Value.ownBlock] using h1
        subst e2
        exact ho8.apart hh (by decide) h2
    clear hb7 hoo7 k2 x0 x1 x2 x3 x4 x5 x6 x7 x8 x9 x10 hC7 hS1 hb8 ho7 how1
    go_wp2_with (at_builtin; refine appR1s (K := rkN) rfl (.tmp 20) (.tmp 22) rfl hoo8 rfl (cs := #[.int .i64 y.to]) rfl rfl (iv_one1 y.to) ?_ ?_ ?_; (next => omega); (next => omega); intro A9 c9 w9 h9 hc9 hv9; have hb9 := Hb8.out.chg hc9 (fun e => hOq2 _ e rfl); have c3n : w9.cell? ⟨q, 3, none⟩ = some (.slice A2 n2 c2) := hb9.cell 3; have f3n := hb9.frozen 3; have ql9 := hb9.lt)
    go_end0
    have hS9 : Chg (fun b => b = q) w9 (w9.setCell ⟨q, 3, none⟩ (.slice A9 (n2 + 1) c9)) := (Chg.refl _ _).set1 3 _
    have hb10 := hb9.put 3 (.slice A9 (n2 + 1) c9)
    simp only [List.setIfInBounds_toArray, List.set_cons_succ, List.set_cons_zero] at hb10
    refine ⟨rfl, A4, c4, A9, c9, hb10, ?_, ?_, ?_, ?_, ?_⟩
    · rw [wyV_snoc]
      exact (ho8.chg hc9 (fun b h1 h2 => hap8 b h2 h1)).chg hS9 (fun b hb e => hA4q b hb e)
    · rw [iv_snoc]
      exact h9.chg hS9 (fun b hb e => h9.apart hb9 (by decide) (by rw [hb, show b = q from e]))
    · intro b hb
      exact (hob7 b hb).imp id (fun h => by omega)
    · intro b hb
      exact (hv9 b hb).imp id (fun h => by omega)
    · exact (hC8.trans2 hc9 (fun b e => .inl (.inr (.inr e)))).trans2 hS9 (fun b e => .inl (.inl e))

theorem wyV_take (W : List Wy) (k : Nat) : (wyV W).take (k * 11) = wyV (W.take k) := by
  induction W generalizing k with
  | nil => simp [wyV]
  | cons y W ih =>
    cases k with
    | zero => simp [wyV]
    | succ k =>
      show ((wyC y) ++ wyV W).take ((k + 1) * 11) = wyC y ++ wyV (W.take k)
      rw [← ih k, Nat.succ_mul, List.take_append, wyC_len, List.take_of_length_le (by rw [wyC_len]; omega)]
      congr 2
theorem wyV_drop (W : List Wy) (k : Nat) : (wyV W).drop (k * 11) = wyV (W.drop k) := by
  induction W generalizing k with
  | nil => simp [wyV]
  | cons y W ih =>
    cases k with
    | zero => simp [wyV]
    | succ k =>
      show ((wyC y) ++ wyV W).drop ((k + 1) * 11) = wyV (W.drop k)
      rw [← ih k, Nat.succ_mul, List.drop_append, wyC_len, List.drop_eq_nil_of_le (by rw [wyC_len]; omega), List.nil_append]
      congr 1
theorem wyV_app (V W : List Wy) : wyV (V ++ W) = wyV V ++ wyV W := by unfold wyV; rw [List.flatMap_append]
theorem iv_take (O : List Int) (k : Nat) : (iv O).take (k * 1) = iv (O.take k) := by unfold iv; rw [Nat.mul_one, List.map_take]
theorem iv_drop (O : List Int) (k : Nat) : (iv O).drop (k * 1) = iv (O.drop k) := by unfold iv; rw [Nat.mul_one, List.map_drop]
def DropPost (w : World) (q : Nat) (gv tv nv : Value) (n n2 : Nat) (W : List Wy) (O : List Int) (k : Nat) (y : Wy) (x : Int) (e : Ending) (w2 : World) : Prop :=
  e = .returned (.tuple #[.agg #[.int .i64 y.kd, .int .i64 y.node, .int .i64 y.life, .int .i64 y.epoch, .string y.id, .int .i64 0, .slice none 0 0, .int .i64 0, .int .i64 0, .int .i64 0, .slice none 0 0], .int .i64 x]) ∧ ∃ A3 c3 A4 c4, Blk w2 q 32 #[gv, tv, .slice A3 (n - 1) c3, .slice A4 (n2 - 1) c4, nv] ∧ OwnR rkY w2 w.heap.size (.slice A3 (n - 1) c3) (n - 1) (wyV (W.take k ++ W.drop (k + 1))) ∧ OwnR rkN w2 w.heap.size (.slice A4 (n2 - 1) c4) (n2 - 1) (iv (O.take k ++ O.drop (k + 1))) ∧ Chg (fun b => b = q) w w2

set_option maxRecDepth 100000 in
set_option maxHeartbeats 16000000 in
theorem drop_any (w : World) (base q : Nat) (gv tv nv : Value) (A : Option Addr) (n c : Nat) (A2 : Option Addr) (n2 c2 : Nat) (W : List Wy) (O : List Int) (k : Nat) (y : Wy) (x : Int) (hy : W[k]? = some y) (hx : O[k]? = some x)
    (hb : Blk w q 32 #[gv, tv, .slice A n c, .slice A2 n2 c2, nv]) (how : OwnR rkY w base (.slice A n c) n (wyV W)) (hoo : OwnR rkN w base (.slice A2 n2 c2) n2 (iv O)) (hn : n ≤ 1000000) (hn2 : n2 ≤ 1000000) (hk : k < n) (hk2 : k < n2) :
    Calls Try.prog 36 #[.pointer (some ⟨q, 0, none⟩), .int .i64 (k : Int)] w (DropPost w q gv tv nv n n2 W O k y x) := by
  have hb1 := hb
  have hr := how.rds
  have hr2 := hoo.rds
  obtain ⟨A', c', e, hnc, hcm, _⟩ := how.open_
  injection e with e1 _ e2
  subst e1 e2
  obtain ⟨A', c', e, hnc2, hcm2, _, hB2⟩ := hoo.open_
  injection e with e1 _ e2
  subst e1 e2
  obtain ⟨ad, y', rfl, hy', h0, h1⟩ := how.rds.getN wyC_len (by decide) hk
  obtain rfl : y = y' := by rw [hy] at hy'; exact Option.some.inj hy'
  obtain ⟨ad2, x', rfl, hx', hcx⟩ := hoo.rds.getI hk2
  obtain rfl : x = x' := by rw [hx] at hx'; exact Option.some.inj hx'
  have z0 : w.cell? (ad.add (k * 11)) = some (.int .i64 y.kd) := h0 _ rfl
  have z1 : w.cell? ⟨(ad.add (k * 11)).block, (ad.add (k * 11)).off + 1, none⟩ = some (.int .i64 y.node) := h1 0 _ rfl
  have z2 : w.cell? ⟨(ad.add (k * 11)).block, (ad.add (k * 11)).off + 2, none⟩ = some (.int .i64 y.life) := h1 1 _ rfl
  have z3 : w.cell? ⟨(ad.add (k * 11)).block, (ad.add (k * 11)).off + 3, none⟩ = some (.int .i64 y.epoch) := h1 2 _ rfl
  have z4 : w.cell? ⟨(ad.add (k * 11)).block, (ad.add (k * 11)).off + 4, none⟩ = some (.string y.id) := h1 3 _ rfl
  have z5 : w.cell? ⟨(ad.add (k * 11)).block, (ad.add (k * 11)).off + 5, none⟩ = some (.int .i64 0) := h1 4 _ rfl
  have z6 : w.cell? ⟨(ad.add (k * 11)).block, (ad.add (k * 11)).off + 6, none⟩ = some (.slice none 0 0) := h1 5 _ rfl
  have z7 : w.cell? ⟨(ad.add (k * 11)).block, (ad.add (k * 11)).off + 7, none⟩ = some (.int .i64 0) := h1 6 _ rfl
  have z8 : w.cell? ⟨(ad.add (k * 11)).block, (ad.add (k * 11)).off + 8, none⟩ = some (.int .i64 0) := h1 7 _ rfl
  have z9 : w.cell? ⟨(ad.add (k * 11)).block, (ad.add (k * 11)).off + 9, none⟩ = some (.int .i64 0) := h1 8 _ rfl
  have z10 : w.cell? ⟨(ad.add (k * 11)).block, (ad.add (k * 11)).off + 10, none⟩ = some (.slice none 0 0) := h1 9 _ rfl
  have zl := World.block_lt_of_cell? w _ z0
  have xl := World.block_lt_of_cell? w _ hcx
  have c21 : w.cell? ⟨q, 2, none⟩ = some (.slice (some ad) n c) := hb1.cell 2
  have c31 : w.cell? ⟨q, 3, none⟩ = some (.slice (some ad2) n2 c2) := hb1.cell 3
  have ql1 := hb1.lt
  have qs := fun w => run_slice_lo (P := Try.prog) Try.underlying28 11 (by kernel_rfl) (by kernel_rfl) (kl := .i64) (i := (k : Int) + 1) (k := k + 1) (n := n) (by omega) (by omega) (some ad) c w
  have qs2 := fun w => run_slice_lo (P := Try.prog) Try.underlying29 1 (by kernel_rfl) (by kernel_rfl) (kl := .i64) (i := (k : Int) + 1) (k := k + 1) (n := n2) (by omega) (by omega) (some ad2) c2 w
  have qh := fun w => run_slice_hi (P := Try.prog) Try.underlying28 (by kernel_rfl) (kl := .i64) (i := (k : Int)) (k := k) (c := c) rfl (by omega) (some ad) n w
  have qh2 := fun w => run_slice_hi (P := Try.prog) Try.underlying29 (by kernel_rfl) (kl := .i64) (i := (k : Int)) (k := k) (c := c2) rfl (by omega) (some ad2) n2 w
  have hrs := hr.cutA (k := k + 1) (c := c) (by omega) hnc
  have hrh := hr.upto (k := k) (by omega)
  have hrs2 := hr2.cutA (k := k + 1) (c := c2) (by omega) hnc2
  have hrh2 := hr2.upto (k := k) (by omega)
  rw [wyV_drop] at hrs
  rw [wyV_take] at hrh
  rw [iv_drop] at hrs2
  rw [iv_take] at hrh2
  have HB1 := Lib.hid hb1
  have hoq2 : ad2.block ≠ q := fun e => hoo.apart hb (by decide) (by rw [← e]; exact hB2 _ rfl)
  have hql := hb.lt
  have hq0 : q ≠ w.heap.size := fun e => by have := hb.lt; omega
  have hq1 : q ≠ w.heap.size + 1 := fun e => by have := hb.lt; omega
  clear hB2 hy hx hb how hoo hb1 hr hr2 hy' hx' h0 h1 hcm hcm2
  go_enter Try.func36, Try.ntmps36
  go_wp2_with (first | (at_builtin; obtain ⟨w2, hw2⟩ : ∃ w2, (w.alloc (.cells #[.int .i64 0, .int .i64 0, .int .i64 0, .int .i64 0, .string ⟨#[]⟩, .int .i64 0, .slice none 0 0, .int .i64 0, .int .i64 0, .int .i64 0, .slice none 0 0] 59)).alloc (.cells #[.int .i64 y.kd, .int .i64 y.node, .int .i64 y.life, .int .i64 y.epoch, .string y.id, .int .i64 0, .slice none 0 0, .int .i64 0, .int .i64 0, .int .i64 0, .slice none 0 0] 59) = w2 := ⟨_, rfl⟩; rw [hw2]; have hc12 : Chg Non w w2 := hw2 ▸ ((Chg.refl _ _).alloc _).alloc _; have Hb1 : Hid (Blk w2 (w.heap.size + 1) 59 #[.int .i64 y.kd, .int .i64 y.node, .int .i64 y.life, .int .i64 y.epoch, .string y.id, .int .i64 0, .slice none 0 0, .int .i64 0, .int .i64 0, .int .i64 0, .slice none 0 0]) := (by have := Blk.new (w.alloc (.cells #[.int .i64 0, .int .i64 0, .int .i64 0, .int .i64 0, .string ⟨#[]⟩, .int .i64 0, .slice none 0 0, .int .i64 0, .int .i64 0, .int .i64 0, .slice none 0 0] 59)) 59 #[.int .i64 y.kd, .int .i64 y.node, .int .i64 y.life, .int .i64 y.epoch, .string y.id, .int .i64 0, .slice none 0 0, .int .i64 0, .int .i64 0, .int .i64 0, .slice none 0 0]; rw [hw2, World.size_alloc] at this; exact this); have Hb0 : Hid (Blk w2 w.heap.size 59 #[.int .i64 0, .int .i64 0, .int .i64 0, .int .i64 0, .string ⟨#[]⟩, .int .i64 0, .slice none 0 0, .int .i64 0, .int .i64 0, .int .i64 0, .slice none 0 0]) := hw2 ▸ (Blk.new w _ _).alloc _; have Hb2 := Lib.hid (HB1.out.non hc12); have hz12 := hc12.size; have hC2 := Lib.hid hc12; have hrs2 := hrs2.non hc12; have hrh := hrh.non hc12; have hrh2 := hrh2.non hc12; refine appRn (K := rkY) rfl (.tmp 30) rfl (hrs.non hc12) rfl (wyV_one _) (by omega) ?_; intro A5 c5 w3 h5 hc3; have c33 : w3.cell? ⟨q, 3, none⟩ = some (.slice (some ad2) n2 c2) := (Hb2.out.non hc3).cell 3; have ql3 := (Hb2.out.non hc3).lt; clear hw2 hc12) | (at_builtin; refine appRn (K := rkN) rfl (.tmp 38) rfl (hrs2.non hc3) rfl (iv_one _) (by omega) ?_; intro A6 c6 w4 h6 hc4; have hc24 := hc3.non hc4; have c24 : w4.cell? ⟨q, 2, none⟩ = some (.slice (some ad) n c) := (Hb2.out.non hc24).cell 2; have ql4 := (Hb2.out.non hc24).lt) | (at_builtin; refine appRn (K := rkY) rfl (.tmp 46) rfl (hrh.non hc24) rfl (wyV_one _) (by omega) ?_; intro A7 c7 w5 h7 hc5) | (at_builtin; refine appRs (K := rkY) rfl (.tmp 47) (.tmp 48) rfl h7 rfl ((h5.non hc4).non hc5).rds rfl (wyV_one _) (by omega) hc5.size ?_; intro A8 c8 w6 h8 hc6 hv8; have hC26 : Chg Non w2 w6 := (hc24.non hc5).trans2 hc6 (fun b e => .inr (by have := (h7.lt e).1; have := hc24.size; omega)); have hb6 := Hb2.out.non hC26; have c26 : w6.cell? ⟨q, 2, none⟩ = some (.slice (some ad) n c) := hb6.cell 2; have f26 := hb6.frozen 2; have ql6 := hb6.lt; obtain ⟨w7, hw7⟩ : ∃ w7, w6.setCell ⟨q, 2, none⟩ (.slice A8 (k + (n - (k + 1))) c8) = w7 := ⟨_, rfl⟩; have hS7 : Chg (fun b => b = q) w6 w7 := hw7 ▸ (Chg.refl _ _).set1 2 _; have hb7 := hb6.put 2 (.slice A8 (k + (n - (k + 1))) c8); simp only [List.setIfInBounds_toArray, List.set_cons_succ, List.set_cons_zero] at hb7; rw [hw7] at hb7; have hC27 : Chg (fun b => b = q) w2 w7 := hC26.of_non.trans2 hS7 (fun b e => .inl e); have Hb7 := Lib.hid hb7; have c37 : w7.cell? ⟨q, 3, none⟩ = some (.slice (some ad2) n2 c2) := hb7.cell 3; have ql7 := hb7.lt; clear hb6 hb7) | (at_builtin; refine appRn (K := rkN) rfl (.tmp 58) rfl (hrh2.chg hC27 (fun ad e => by obtain rfl := Option.some.inj e; exact hoq2)) rfl (iv_one _) (by omega) ?_; intro A9 c9 w8 h9 hc8) | (at_builtin; refine appRs (K := rkN) rfl (.tmp 59) (.tmp 60) rfl h9 rfl (((((h6.non hc5).chg hc6 (fun b e1 e2 => by have := (h6.lt e1).2; have := (h7.lt e2).1; omega)).chg hS7 (fun b e1 e2 => by have := (h6.lt e1).1; have := hc3.size; have e3 : b = q := e2; omega)).non hc8)).rds rfl (iv_one _) (by omega) hc8.size ?_; intro A10 c10 w9 h10 hc9 hv10; have hC29 : Chg (fun b => b = q) w2 w9 := (hC27.non hc8).trans2 hc9 (fun b e => .inr (by have := (h9.lt e).1; have := hC27.size; omega)); have hb9 := (Hb7.out.non hc8).chg hc9 (fun e => by have := (h9.lt e).1; have := hC27.size; omega); have c39 : w9.cell? ⟨q, 3, none⟩ = some (.slice (some ad2) n2 c2) := hb9.cell 3; have f39 := hb9.frozen 3; have ql9 := hb9.lt; obtain ⟨w10, hw10⟩ : ∃ w10, w9.setCell ⟨q, 3, none⟩ (.slice A10 (k + (n2 - (k + 1))) c10) = w10 := ⟨_, rfl⟩; have hS10 : Chg (fun b => b = q) w9 w10 := hw10 ▸ (Chg.refl _ _).set1 3 _; have hb10 := hb9.put 3 (.slice A10 (k + (n2 - (k + 1))) c10); simp only [List.setIfInBounds_toArray, List.set_cons_succ, List.set_cons_zero] at hb10; rw [hw10] at hb10; have Hb10 := Lib.hid hb10; have hC210 := hC29.trans2 hS10 (fun b e => .inl e); have hY := Hb1.out.chg hC210 (fun e => hq1 e.symm); have hZ := Hb0.out.chg hC210 (fun e => hq0 e.symm); have y0 := hY.cell 0; have y1 := hY.cell 1; have y2 := hY.cell 2; have y3 := hY.cell 3; have y4 := hY.cell 4; have y5 := hY.cell 5; have y6 := hY.cell 6; have y7 := hY.cell 7; have y8 := hY.cell 8; have y9 := hY.cell 9; have y10 := hY.cell 10; simp only [List.getElem?_toArray, List.getElem?_cons_zero, List.getElem?_cons_succ] at y0 y1 y2 y3 y4 y5 y6 y7 y8 y9 y10; have yl := hY.lt; have d0 := hZ.cell 0; have d1 := hZ.cell 1; have d2 := hZ.cell 2; have d3 := hZ.cell 3; have d4 := hZ.cell 4; have d5 := hZ.cell 5; have d6 := hZ.cell 6; have d7 := hZ.cell 7; have d8 := hZ.cell 8; have d9 := hZ.cell 9; have d10 := hZ.cell 10; simp only [List.getElem?_toArray, List.getElem?_cons_zero, List.getElem?_cons_succ] at d0 d1 d2 d3 d4 d5 d6 d7 d8 d9 d10; have f0 := hZ.frozen 0; have f1 := hZ.frozen 1; have f2 := hZ.frozen 2; have f3 := hZ.frozen 3; have f4 := hZ.frozen 4; have f5 := hZ.frozen 5; have f6 := hZ.frozen 6; have f7 := hZ.frozen 7; have f8 := hZ.frozen 8; have f9 := hZ.frozen 9; have f10 := hZ.frozen 10; have zl := hZ.lt; have hb4 := (((((((((((hZ.put 0 (.int .i64 y.kd)).put 1 (.int .i64 y.node)).put 2 (.int .i64 y.life)).put 3 (.int .i64 y.epoch)).put 4 (.string y.id)).put 5 (.int .i64 0)).put 6 (.slice none 0 0)).put 7 (.int .i64 0)).put 8 (.int .i64 0)).put 9 (.int .i64 0)).put 10 (.slice none 0 0)); simp only [List.setIfInBounds_toArray, List.set_cons_succ, List.set_cons_zero] at hb4; have r0 := hb4.cell 0; have r1 := hb4.cell 1; have r2 := hb4.cell 2; have r3 := hb4.cell 3; have r4 := hb4.cell 4; have r5 := hb4.cell 5; have r6 := hb4.cell 6; have r7 := hb4.cell 7; have r8 := hb4.cell 8; have r9 := hb4.cell 9; have r10 := hb4.cell 10; simp only [List.getElem?_toArray, List.getElem?_cons_zero, List.getElem?_cons_succ] at r0 r1 r2 r3 r4 r5 r6 r7 r8 r9 r10; clear hb9 hb10 hY hZ hb4))
  obtain ⟨w11, hw11⟩ : ∃ w11, (((((((((((w10.setCell ⟨w.heap.size, 0, none⟩ (.int .i64 y.kd)).setCell ⟨w.heap.size, 1, none⟩ (.int .i64 y.node)).setCell ⟨w.heap.size, 2, none⟩ (.int .i64 y.life)).setCell ⟨w.heap.size, 3, none⟩ (.int .i64 y.epoch)).setCell ⟨w.heap.size, 4, none⟩ (.string y.id)).setCell ⟨w.heap.size, 5, none⟩ (.int .i64 0)).setCell ⟨w.heap.size, 6, none⟩ (.slice none 0 0)).setCell ⟨w.heap.size, 7, none⟩ (.int .i64 0)).setCell ⟨w.heap.size, 8, none⟩ (.int .i64 0)).setCell ⟨w.heap.size, 9, none⟩ (.int .i64 0)).setCell ⟨w.heap.size, 10, none⟩ (.slice none 0 0)) = w11 := ⟨_, rfl⟩
  have hS11 : Chg (fun b => b = w.heap.size) w10 w11 := hw11 ▸ ((((((((((((Chg.refl _ _).set1 0 _).set1 1 _).set1 2 _).set1 3 _).set1 4 _).set1 5 _).set1 6 _).set1 7 _).set1 8 _).set1 9 _).set1 10 _)
  have e1 : k + (n - (k + 1)) = n - 1 := by omega
  have e2 : k + (n2 - (k + 1)) = n2 - 1 := by omega
  have s0 := Hb0.out.lt
  have s3 := hc3.size
  have s4 := hc4.size
  have s5 := hc5.size
  have s6 := hc6.size
  have s7 := hS7.size
  have s8 := hc8.size
  have hbq := Hb10.out.chg hS11 hq0
  have o8 := (((h8.chg hS7 (fun b e1 e2 => by have := (h8.lt e1).1; have e3 : b = q := e2; omega)).non hc8).chg hc9 (fun b e1 e2 => by have := (h8.lt e1).2; have := (h9.lt e2).1; omega)).chg hS10 (fun b e1 e2 => by have := (h8.lt e1).1; have e3 : b = q := e2; omega)
  have o8 := (o8.chg hS11 (fun b e1 e2 => by have := (o8.lt e1).1; have e3 : b = w.heap.size := e2; omega)).mono (b2 := w.heap.size) (by omega)
  have o10 := h10.chg hS10 (fun b e1 e2 => by have := (h10.lt e1).1; have e3 : b = q := e2; omega)
  have o10 := (o10.chg hS11 (fun b e1 e2 => by have := (o10.lt e1).1; have e3 : b = w.heap.size := e2; omega)).mono (b2 := w.heap.size) (by omega)
  rw [e1] at hbq o8
  rw [e2] at hbq o10
  rw [← wyV_app] at o8
  rw [← iv_app] at o10
  have hCq : Chg (fun b => b = q) w w11 := (hC2.out.of_non.trans2 hC210 (fun b e => .inl e)).trans2 hS11 (fun b e => .inr (by have e3 : b = w.heap.size := e; omega))
  have Hfin := Lib.hid (show DropPost w q gv tv nv n n2 W O k y x (.returned (.tuple #[.agg #[.int .i64 y.kd, .int .i64 y.node, .int .i64 y.life, .int .i64 y.epoch, .string y.id, .int .i64 0, .slice none 0 0, .int .i64 0, .int .i64 0, .int .i64 0, .slice none 0 0], .int .i64 x])) w11 from ⟨rfl, _, _, _, _, hbq, o8, o10, hCq⟩)
  clear hbq o8 o10 hCq hS11
  rw [hw11] at r0 r1 r2 r3 r4 r5 r6 r7 r8 r9 r10 ⊢
  exact bodyPost_ret (v := .tuple #[.agg #[.int .i64 y.kd, .int .i64 y.node, .int .i64 y.life, .int .i64 y.epoch, .string y.id, .int .i64 0, .slice none 0 0, .int .i64 0, .int .i64 0, .int .i64 0, .slice none 0 0], .int .i64 x]) (by simp [results, Try.results36, go_sem, r0, r1, r2, r3, r4, r5, r6, r7, r8, r9, r10]) rfl Hfin.out
  

theorem and_low2 (x : Int) (j : Nat) (hj : j ≤ 10) : bits .and .i64 x (2 ^ j - 1 : Nat) = x % ((2 ^ j : Nat) : Int) := by
  have hp : 2 ^ j ≤ 1024 := Nat.pow_le_pow_right (by omega) hj
  have hp0 : 0 < 2 ^ j := Nat.two_pow_pos j
  show IntKind.i64.wrap ((BitVec.ofInt 64 x &&& BitVec.ofInt 64 ((2 ^ j - 1 : Nat) : Int)).toNat : Int) = _
  have h1 : (BitVec.ofInt 64 ((2 ^ j - 1 : Nat) : Int)).toNat = 2 ^ j - 1 := by
    rw [BitVec.toNat_ofInt]
    omega
  rw [BitVec.toNat_and, h1, Nat.and_two_pow_sub_one_eq_mod, BitVec.toNat_ofInt, IntKind.wrap_i64]
  have h2 : (2 : Nat) ^ 64 = 2 ^ j * 2 ^ (64 - j) := by rw [← Nat.pow_add]; congr 1; omega
  have hm : (x % ((2 ^ 64 : Nat) : Int)).toNat % 2 ^ j = (x % ((2 ^ j : Nat) : Int)).toNat := by
    have e1 : (((x % ((2 ^ 64 : Nat) : Int)).toNat % 2 ^ j : Nat) : Int) = ((x % ((2 ^ j : Nat) : Int)).toNat : Nat) := by
      rw [Int.natCast_emod, Int.toNat_of_nonneg (Int.emod_nonneg _ (by omega)), Int.toNat_of_nonneg (Int.emod_nonneg _ (by omega))]
      refine Int.emod_emod_of_dvd x ?_
      rw [h2]
      exact ⟨((2 ^ (64 - j) : Nat) : Int), by push_cast; rfl⟩
    omega
  rw [hm]
  have h3 := Int.emod_nonneg x (show ((2 ^ j : Nat) : Int) ≠ 0 by omega)
  have h4 := Int.emod_lt_of_pos x (show (0 : Int) < ((2 ^ j : Nat) : Int) by omega)
  omega
theorem and1023 (x : Int) : ∃ y : Nat, y < 1024 ∧ bits .and .i64 x 1023 = (y : Int) := ⟨(x % 1024).toNat, by omega, by have := and_low2 x 10 (by omega); rw [show ((2 ^ 10 - 1 : Nat) : Int) = 1023 from rfl] at this; rw [this]; show x % 1024 = _; omega⟩
theorem and127 (x : Int) : ∃ y : Nat, y < 128 ∧ bits .and .i64 x 127 = (y : Int) := ⟨(x % 128).toNat, by omega, by have := and_low2 x 7 (by omega); rw [show ((2 ^ 7 - 1 : Nat) : Int) = 127 from rfl] at this; rw [this]; show x % 128 = _; omega⟩

theorem hasL_step {L : List ByteArray} {k : Nat} {m : ByteArray} (h : L[k]? = some m) (c : ByteArray) : hasL (L.take (k + 1)) c = (hasL (L.take k) c || decide (m = c)) := by
  unfold hasL
  exact any_step h
theorem hasL_at {L : List ByteArray} {k : Nat} {c : ByteArray} (h : L[k]? = some c) : hasL L c = true := hasL_true.2 (List.mem_of_getElem? h)
set_option maxRecDepth 100000 in
set_option maxHeartbeats 1000000 in
theorem has_any (w : World) (A : Option Addr) (n c : Nat) (L : List ByteArray) (x : ByteArray) (h1 : Rds w 1 A n (sv L)) (hn : n ≤ 1000000) :
    Calls Try.prog 13 #[.slice A n c, .string x] w fun e w2 => e = .returned (.bool (hasL L x)) ∧ w = w2 := by
  have H1 := Lib.hid h1
  have Hl := Lib.hid (h1.lenMap (f := Value.string))
  clear h1
  go_enter Try.func13, Try.ntmps13
  go_wp2_with fail
  go_loop [5] (fun i => ∃ k : Nat, k ≤ n ∧ i = .int .i64 k ∧ Hid (hasL (L.take k) x = false)) (fun i => n - (intOf i).toNat)
  case atStart => exact ⟨0, Nat.zero_le _, rfl, rfl⟩
  case round =>
    obtain ⟨k, hk, rfl, hno⟩ := hrel
    by_cases hlt : k < n
    · obtain ⟨ad, y, rfl, hx, hc⟩ := H1.out.getS hlt
      by_cases hp : y = x
      · subst hp
        have Hy : Hid (hasL L y = true) := hasL_at hx
        clear hx hno
        go_wp2_with fail
        go_ret
        exact ⟨by rw [Hy.out]; rfl, rfl⟩
      · have hst : Hid (hasL (L.take (k + 1)) x = false) := by have h9 := hasL_step hx x; rw [hno.out, decide_eq_false hp] at h9; exact h9
        have hp2 := str_ne hp
        clear hx hno hp
        go_wp2_with fail
        go_round
        case rel => exact ⟨k + 1, by omega, by go_num, hst⟩
        case measure => simp [intOf]; omega
    · have Hy : Hid (hasL L x = false) := by have h9 := hno.out; rw [List.take_of_length_le (by have := Hl.out; omega)] at h9; exact h9
      clear hno
      go_wp2_with fail
      go_ret
      exact ⟨by rw [Hy.out]; rfl, rfl⟩

structure Tp where
  (t sm tm ns nt : Nat)
structure Hp where
  (q g sm om ns no lm ln : Nat)
  Aw : Option Addr
  cw : Nat
  Ao : Option Addr
  co : Nat
  At : Option Addr
  ct : Nat
  An : Option Addr
  cn : Nat
  tp : List Tp
def tpV (p : Tp) : Value := .pointer (some ⟨p.t, 0, none⟩)
def lastV (f : ByteArray → Option Int) (a : ByteArray) : Option Value := (f a).map fun v => .int .i64 v

/-- MoveOnce's world: each block has one owner (1 the giver, 2 the struct, 3 to 6 its rows, 7 the map of the last takers, 8 and on the takers). -/
structure Wd (w : World) (base : Nat) (col : Nat → Nat) (h : Hp) (s : OSt) (T : Nat) : Prop where
  hb : Blk w h.q 32 #[.pointer (some ⟨h.g, 0, none⟩), .slice h.At h.tp.length h.ct, .slice h.Aw s.way.length h.cw, .slice h.Ao s.way.length h.co, .slice h.An T h.cn]
  hg : Gv w (fun b => col b = 1) h.g h.sm h.om h.ns h.no s.g
  ht : ∀ (j : Nat) (p : Tp) (x : TkS), h.tp[j]? = some p → s.t[j]? = some x → Tk w (fun b => col b = 8 + j) p.t p.sm p.tm p.ns p.nt x
  tl : h.tp.length = s.t.length
  ow : OwnR rkY w base (.slice h.Aw s.way.length h.cw) s.way.length (wyV s.way)
  oo : OwnR rkN w base (.slice h.Ao s.way.length h.co) s.way.length (iv (s.way.map Wy.to))
  ot : OwnR rkTk w base (.slice h.At h.tp.length h.ct) h.tp.length (h.tp.map tpV)
  on : OwnR rkI w base (.slice h.An T h.cn) T (sv ((List.range T).map id1))
  hm : Mp nmKey w h.lm h.ln (lastV s.last)
  cq : col h.q = 2
  cw : ∀ b, (Value.slice h.Aw s.way.length h.cw).ownBlock = some b → col b = 3
  co : ∀ b, (Value.slice h.Ao s.way.length h.co).ownBlock = some b → col b = 4
  cn : ∀ b, (Value.slice h.An T h.cn).ownBlock = some b → col b = 5
  ct : ∀ b, (Value.slice h.At h.tp.length h.ct).ownBlock = some b → col b = 6
  cm : col h.lm = 7
  lt : ∀ b, col b ≠ 0 → base ≤ b ∧ b < w.heap.size
structure Bd (h : Hp) (B : Nat) : Prop where
  ns : h.ns ≤ B
  no : h.no ≤ B
  ln : h.ln ≤ B
  tp : ∀ (j : Nat) (p : Tp), h.tp[j]? = some p → p.ns ≤ B ∧ p.nt ≤ B
theorem Bd.mono {h : Hp} {B C : Nat} (k : Bd h B) (hc : B ≤ C) : Bd h C := ⟨Nat.le_trans k.ns hc, Nat.le_trans k.no hc, Nat.le_trans k.ln hc, fun j p e => ⟨Nat.le_trans (k.tp j p e).1 hc, Nat.le_trans (k.tp j p e).2 hc⟩⟩

section
variable {w w2 : World} {base : Nat} {col : Nat → Nat} {h : Hp} {s : OSt} {T : Nat}
/-- What is no one's may change. -/
theorem Wd.chg {S : Nat → Prop} (k : Wd w base col h s T) (hc : Chg S w w2) (hS : ∀ b, S b → col b = 0) : Wd w2 base col h s T := by
  have hn : ∀ b c, c ≠ 0 → col b = c → ¬ S b := fun b c hc0 e e2 => by rw [hS b e2] at e; exact hc0 e.symm
  exact ⟨k.hb.chg hc (hn _ _ (by decide) k.cq), k.hg.chg hc (fun b e => hn _ _ (by decide) e), fun j p x e1 e2 => (k.ht j p x e1 e2).chg hc (fun b e => hn _ _ (by omega) e), k.tl,
    k.ow.chg hc (fun b e => hn _ _ (by decide) (k.cw b e)), k.oo.chg hc (fun b e => hn _ _ (by decide) (k.co b e)), k.ot.chg hc (fun b e => hn _ _ (by decide) (k.ct b e)), k.on.chg hc (fun b e => hn _ _ (by decide) (k.cn b e)), k.hm.chg hc (hn _ _ (by decide) k.cm),
    k.cq, k.cw, k.co, k.cn, k.ct, k.cm, fun b e => ⟨(k.lt b e).1, Nat.lt_of_lt_of_le (k.lt b e).2 hc.size⟩⟩
theorem Wd.non (k : Wd w base col h s T) (hc : Chg Non w w2) : Wd w2 base col h s T := k.chg hc fun _ e => e.elim
/-- The giver's blocks alone change. -/
theorem Wd.give (k : Wd w base col h s T) (hc : Chg (fun b => col b = 1) w w2) {ns no : Nat} {g : GvS} (hg : Gv w2 (fun b => col b = 1) h.g h.sm h.om ns no g) : Wd w2 base col { h with ns := ns, no := no } { s with g := g } T := by
  have hn : ∀ b c, c ≠ 1 → col b = c → ¬ col b = 1 := fun b c h1 e e2 => h1 (e.symm.trans e2)
  exact ⟨k.hb.chg hc (hn _ _ (by decide) k.cq), hg, fun j p x e1 e2 => (k.ht j p x e1 e2).chg hc (fun b e => hn _ _ (by omega) e), k.tl,
    k.ow.chg hc (fun b e => hn _ _ (by decide) (k.cw b e)), k.oo.chg hc (fun b e => hn _ _ (by decide) (k.co b e)), k.ot.chg hc (fun b e => hn _ _ (by decide) (k.ct b e)), k.on.chg hc (fun b e => hn _ _ (by decide) (k.cn b e)), k.hm.chg hc (hn _ _ (by decide) k.cm),
    k.cq, k.cw, k.co, k.cn, k.ct, k.cm, fun b e => ⟨(k.lt b e).1, Nat.lt_of_lt_of_le (k.lt b e).2 hc.size⟩⟩
/-- One taker's blocks alone change. -/
theorem Wd.take (k : Wd w base col h s T) {j : Nat} (hc : Chg (fun b => col b = 8 + j) w w2) {p : Tp} (hp : h.tp[j]? = some p) {ns nt : Nat} {x : TkS} (hx : Tk w2 (fun b => col b = 8 + j) p.t p.sm p.tm ns nt x) :
    Wd w2 base col { h with tp := h.tp.set j { p with ns := ns, nt := nt } } { s with t := s.t.set j x } T := by
  have hn : ∀ b c, c ≠ 8 + j → col b = c → ¬ col b = 8 + j := fun b c h1 e e2 => h1 (e.symm.trans e2)
  have hl : (h.tp.set j { p with ns := ns, nt := nt }).length = h.tp.length := by simp
  have hm : (h.tp.set j { p with ns := ns, nt := nt }).map tpV = h.tp.map tpV := by
    apply List.ext_getElem?
    intro i
    rw [List.getElem?_map, List.getElem?_map, List.getElem?_set]
    by_cases e : j = i
    · subst e
      rw [if_pos rfl, if_pos (List.getElem?_eq_some_iff.1 hp).1, hp]
      rfl
    · rw [if_neg e]
  refine ⟨?_, k.hg.chg hc (fun b e => hn _ _ (by omega) e), ?_, by simp [k.tl], k.ow.chg hc (fun b e => hn _ _ (by omega) (k.cw b e)), k.oo.chg hc (fun b e => hn _ _ (by omega) (k.co b e)), ?_, k.on.chg hc (fun b e => hn _ _ (by omega) (k.cn b e)), k.hm.chg hc (hn _ _ (by omega) k.cm),
    k.cq, k.cw, k.co, k.cn, ?_, k.cm, fun b e => ⟨(k.lt b e).1, Nat.lt_of_lt_of_le (k.lt b e).2 hc.size⟩⟩
  · show Blk w2 h.q _ #[_, .slice h.At (h.tp.set j { p with ns := ns, nt := nt }).length h.ct, _, _, _]
    rw [hl]
    exact k.hb.chg hc (hn _ _ (by omega) k.cq)
  · intro i p2 y e1 e2
    have e1 : (h.tp.set j { p with ns := ns, nt := nt })[i]? = some p2 := e1
    have e2 : (s.t.set j x)[i]? = some y := e2
    rw [List.getElem?_set] at e1 e2
    by_cases e : j = i
    · subst e
      rw [if_pos rfl, if_pos (List.getElem?_eq_some_iff.1 hp).1] at e1
      rw [if_pos rfl, if_pos (by rw [← k.tl]; exact (List.getElem?_eq_some_iff.1 hp).1)] at e2
      obtain rfl := Option.some.inj e1
      obtain rfl := Option.some.inj e2
      exact hx
    · rw [if_neg e] at e1 e2
      exact (k.ht i p2 y e1 e2).chg hc (fun b e3 => hn _ _ (by omega) e3)
  · show OwnR rkTk w2 base (.slice h.At (h.tp.set j { p with ns := ns, nt := nt }).length h.ct) (h.tp.set j { p with ns := ns, nt := nt }).length ((h.tp.set j { p with ns := ns, nt := nt }).map tpV)
    rw [hl, hm]
    exact k.ot.chg hc (fun b e => hn _ _ (by omega) (k.ct b e))
  · show ∀ b, (Value.slice h.At (h.tp.set j { p with ns := ns, nt := nt }).length h.ct).ownBlock = some b → col b = 6
    rw [hl]
    exact k.ct
/-- The map of the last takers alone changes. -/
theorem Wd.lasts (k : Wd w base col h s T) (hc : Chg (fun b => b = h.lm) w w2) {ln : Nat} {f : ByteArray → Option Int} (hm : Mp nmKey w2 h.lm ln (lastV f)) : Wd w2 base col { h with ln := ln } { s with last := f } T := by
  have hn : ∀ b c, c ≠ 7 → col b = c → ¬ b = h.lm := fun b c h1 e e2 => h1 (by rw [← e, e2]; exact k.cm)
  exact ⟨k.hb.chg hc (hn _ _ (by decide) k.cq), k.hg.chg hc (fun b e => hn _ _ (by decide) e), fun j p x e1 e2 => (k.ht j p x e1 e2).chg hc (fun b e => hn _ _ (by omega) e), k.tl,
    k.ow.chg hc (fun b e => hn _ _ (by decide) (k.cw b e)), k.oo.chg hc (fun b e => hn _ _ (by decide) (k.co b e)), k.ot.chg hc (fun b e => hn _ _ (by decide) (k.ct b e)), k.on.chg hc (fun b e => hn _ _ (by decide) (k.cn b e)), hm,
    k.cq, k.cw, k.co, k.cn, k.ct, k.cm, fun b e => ⟨(k.lt b e).1, Nat.lt_of_lt_of_le (k.lt b e).2 hc.size⟩⟩

/-- The two rows of notes lie anew. -/
def colN (col : Nat → Nat) (v u : Value) (b : Nat) : Nat := if v.ownBlock = some b then 3 else if u.ownBlock = some b then 4 else if col b = 3 ∨ col b = 4 then 0 else col b
theorem Wd.rows (k : Wd w base col h s T) {S : Nat → Prop} (hc : Chg S w w2) (hS : ∀ b, S b → col b = 2 ∨ col b = 3 ∨ col b = 4) {W : List Wy} {Aw Ao : Option Addr} {cw co : Nat}
    (hb : Blk w2 h.q 32 #[.pointer (some ⟨h.g, 0, none⟩), .slice h.At h.tp.length h.ct, .slice Aw W.length cw, .slice Ao W.length co, .slice h.An T h.cn])
    (hw : OwnR rkY w2 base (.slice Aw W.length cw) W.length (wyV W)) (ho : OwnR rkN w2 base (.slice Ao W.length co) W.length (iv (W.map Wy.to)))
    (fw : ∀ b, (Value.slice Aw W.length cw).ownBlock = some b → col b = 3 ∨ w.heap.size ≤ b) (fo : ∀ b, (Value.slice Ao W.length co).ownBlock = some b → col b = 4 ∨ w.heap.size ≤ b) :
    Wd w2 base (colN col (.slice Aw W.length cw) (.slice Ao W.length co)) { h with Aw := Aw, cw := cw, Ao := Ao, co := co } { s with way := W } T := by
  have hnew : ∀ b, w.heap.size ≤ b → col b = 0 := fun b hb => by
    rcases Nat.eq_zero_or_pos (col b) with e | e
    · exact e
    · have := (k.lt b (by omega)).2; omega
  have hkeep : ∀ b c, c ≠ 0 → c ≠ 3 → c ≠ 4 → (colN col (.slice Aw W.length cw) (.slice Ao W.length co) b = c ↔ col b = c) := fun b c h0 h3 h4 => by
    unfold colN
    by_cases e1 : (Value.slice Aw W.length cw).ownBlock = some b
    · rw [if_pos e1]
      rcases fw b e1 with e | e
      · rw [e]
      · rw [hnew b e]; omega
    · rw [if_neg e1]
      by_cases e2 : (Value.slice Ao W.length co).ownBlock = some b
      · rw [if_pos e2]
        rcases fo b e2 with e | e
        · rw [e]
        · rw [hnew b e]; omega
      · rw [if_neg e2]
        by_cases e3 : col b = 3 ∨ col b = 4
        · rw [if_pos e3]
          rcases e3 with e3 | e3 <;> rw [e3] <;> omega
        · rw [if_neg e3]
  have hn : ∀ b c, c ≠ 2 → c ≠ 3 → c ≠ 4 → col b = c → ¬ S b := fun b c h2 h3 h4 e e2 => by rcases hS b e2 with e3 | e3 | e3 <;> rw [e3] at e <;> omega
  have hg : Gv w2 (fun b => colN col (.slice Aw W.length cw) (.slice Ao W.length co) b = 1) h.g h.sm h.om h.ns h.no s.g := by
    rw [show (fun b => colN col (.slice Aw W.length cw) (.slice Ao W.length co) b = 1) = fun b => col b = 1 from funext fun b => propext (hkeep b 1 (by decide) (by decide) (by decide))]
    exact k.hg.chg hc (fun b e => hn _ _ (by decide) (by decide) (by decide) e)
  have ht : ∀ (j : Nat) (p : Tp) (x : TkS), h.tp[j]? = some p → s.t[j]? = some x → Tk w2 (fun b => colN col (.slice Aw W.length cw) (.slice Ao W.length co) b = 8 + j) p.t p.sm p.tm p.ns p.nt x := fun j p x e1 e2 => by
    rw [show (fun b => colN col (.slice Aw W.length cw) (.slice Ao W.length co) b = 8 + j) = fun b => col b = 8 + j from funext fun b => propext (hkeep b (8 + j) (by omega) (by omega) (by omega))]
    exact (k.ht j p x e1 e2).chg hc (fun b e => hn _ _ (by omega) (by omega) (by omega) e)
  refine ⟨hb, hg, ht, k.tl, hw, ho, k.ot.chg hc (fun b e => hn _ _ (by decide) (by decide) (by decide) (k.ct b e)), k.on.chg hc (fun b e => hn _ _ (by decide) (by decide) (by decide) (k.cn b e)), k.hm.chg hc (hn _ _ (by decide) (by decide) (by decide) k.cm),
    (hkeep _ 2 (by decide) (by decide) (by decide)).2 k.cq, ?_, ?_, fun b e => (hkeep _ 5 (by decide) (by decide) (by decide)).2 (k.cn b e), fun b e => (hkeep _ 6 (by decide) (by decide) (by decide)).2 (k.ct b e), (hkeep _ 7 (by decide) (by decide) (by decide)).2 k.cm, ?_⟩
  · intro b e
    unfold colN
    rw [if_pos e]
  · intro b e
    unfold colN
    rw [if_neg, if_pos e]
    intro e2
    rcases ho.2 with ⟨e3, _⟩ | ⟨g2, cap, cur, e3, _, hh, _⟩
    · rw [e3] at e; simp [Value.ownBlock] at e
    · rw [e3] at e
      have e4 : g2 = b := by simpa [Value.ownBlock] using e
      subst e4
      exact hw.apart hh (by decide) e2
  · intro b e
    unfold colN at e
    by_cases e1 : (Value.slice Aw W.length cw).ownBlock = some b
    · exact hw.lt e1
    · rw [if_neg e1] at e
      by_cases e2 : (Value.slice Ao W.length co).ownBlock = some b
      · exact ho.lt e2
      · rw [if_neg e2] at e
        by_cases e3 : col b = 3 ∨ col b = 4
        · rw [if_pos e3] at e
          exact absurd rfl e
        · rw [if_neg e3] at e
          exact ⟨(k.lt b e).1, Nat.lt_of_lt_of_le (k.lt b e).2 hc.size⟩
theorem Wd.sent (k : Wd w base col h s T) {y : Wy} {e : Ending} (hp : SendPost w base h.q (.pointer (some ⟨h.g, 0, none⟩)) (.slice h.At h.tp.length h.ct) (.slice h.An T h.cn) h.Aw s.way.length h.cw h.Ao s.way.length h.co s.way (s.way.map Wy.to) y e w2) :
    e = .returned (.tuple #[]) ∧ ∃ col2 Aw cw Ao co, Wd w2 base col2 { h with Aw := Aw, cw := cw, Ao := Ao, co := co } { s with way := s.way ++ [y] } T ∧ Chg (fun b => col b ≠ 0) w w2 ∧ ∀ b, b < w.heap.size → col2 b ≠ 0 → col b ≠ 0 := by
  obtain ⟨h0, A3, c3, A4, c4, hb, hw, ho, fw, fo, hc⟩ := hp
  have hl : (s.way ++ [y]).length = s.way.length + 1 := by simp
  have hm : (s.way ++ [y]).map Wy.to = s.way.map Wy.to ++ [y.to] := by simp
  refine ⟨h0, _, A3, c3, A4, c4, k.rows hc ?_ (by rw [hl]; exact hb) (by rw [hl]; exact hw) (by rw [hl, hm]; exact ho) ?_ ?_, ?_, ?_⟩
  · rintro b (rfl | e | e)
    · exact .inl k.cq
    · exact .inr (.inl (k.cw b e))
    · exact .inr (.inr (k.co b e))
  · rw [hl]
    exact fun b e => (fw b e).imp (k.cw b) id
  · rw [hl]
    exact fun b e => (fo b e).imp (k.co b) id
  · refine hc.mono ?_
    rintro b (rfl | e | e)
    · rw [k.cq]; decide
    · rw [k.cw b e]; decide
    · rw [k.co b e]; decide
  · intro b hb2 e
    unfold colN at e
    rw [hl] at e
    by_cases e1 : (Value.slice A3 (s.way.length + 1) c3).ownBlock = some b
    · rcases fw b e1 with e4 | e4
      · rw [k.cw b e4]; decide
      · omega
    · rw [if_neg e1] at e
      by_cases e2 : (Value.slice A4 (s.way.length + 1) c4).ownBlock = some b
      · rcases fo b e2 with e4 | e4
        · rw [k.co b e4]; decide
        · omega
      · rw [if_neg e2] at e
        by_cases e3 : col b = 3 ∨ col b = 4
        · rw [if_pos e3] at e
          exact absurd rfl e
        · rw [if_neg e3] at e
          exact e
theorem Wd.dropped (k : Wd w base col h s T) {r : Nat} (hr : r < s.way.length) {y : Wy} {x : Int} {e : Ending} (hbase : base ≤ w.heap.size) (hp : DropPost w h.q (.pointer (some ⟨h.g, 0, none⟩)) (.slice h.At h.tp.length h.ct) (.slice h.An T h.cn) s.way.length s.way.length s.way (s.way.map Wy.to) r y x e w2) :
    e = .returned (.tuple #[.agg #[.int .i64 y.kd, .int .i64 y.node, .int .i64 y.life, .int .i64 y.epoch, .string y.id, .int .i64 0, .slice none 0 0, .int .i64 0, .int .i64 0, .int .i64 0, .slice none 0 0], .int .i64 x]) ∧ ∃ col2 Aw cw Ao co, Wd w2 base col2 { h with Aw := Aw, cw := cw, Ao := Ao, co := co } { s with way := s.way.take r ++ s.way.drop (r + 1) } T ∧ Chg (fun b => col b ≠ 0) w w2 ∧ ∀ b, b < w.heap.size → col2 b ≠ 0 → col b ≠ 0 := by
  obtain ⟨h0, A3, c3, A4, c4, hb, hw, ho, hc⟩ := hp
  have hl : (s.way.take r ++ s.way.drop (r + 1)).length = s.way.length - 1 := by simp; omega
  have hm : (s.way.take r ++ s.way.drop (r + 1)).map Wy.to = (s.way.map Wy.to).take r ++ (s.way.map Wy.to).drop (r + 1) := by simp [List.map_take, List.map_drop]
  refine ⟨h0, _, A3, c3, A4, c4, k.rows hc ?_ (by rw [hl]; exact hb) (by rw [hl]; exact hw.mono hbase) (by rw [hl, hm]; exact ho.mono hbase) ?_ ?_, ?_, ?_⟩
  · rintro b rfl
    exact .inl k.cq
  · rw [hl]
    exact fun b e => .inr (hw.lt e).1
  · rw [hl]
    exact fun b e => .inr (ho.lt e).1
  · refine hc.mono ?_
    rintro b rfl
    rw [k.cq]; decide
  · intro b hb2 e
    unfold colN at e
    rw [hl] at e
    by_cases e1 : (Value.slice A3 (s.way.length - 1) c3).ownBlock = some b
    · have := (hw.lt e1).1; omega
    · rw [if_neg e1] at e
      by_cases e2 : (Value.slice A4 (s.way.length - 1) c4).ownBlock = some b
      · have := (ho.lt e2).1; omega
      · rw [if_neg e2] at e
        by_cases e3 : col b = 3 ∨ col b = 4
        · rw [if_pos e3] at e
          exact absurd rfl e
        · rw [if_neg e3] at e
          exact e
end
end Go.Proofs.Ytflaliomkfbagaa
