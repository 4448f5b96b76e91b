/-
  gleanerref4.Check: what it takes is sound.
  gleanerref4.Know: a job that is taken, with its functions' depths.
-/
import Derived.Test.YteinbdifncdaiaaTdDeepDep
namespace Go.Proofs.Yteinbdifncdaiaa
open Go.RowKit
set_option linter.unusedVariables false
set_option linter.unusedSimpArgs false

/-- What Check answers. -/
def ChPost (w : World) (j : Jb) (e : Ending) (w2 : World) : Prop :=
  ∃ a b x, e = .returned (.tuple #[.int .i64 a, .int .i64 b, .int .i64 x]) ∧ Chg Non w w2 ∧ (x = 0 → JbOk j)
theorem ChPost.bad {w : World} {j : Jb} {w2 : World} (hc : Chg Non w w2) {a b x : Int} (hx : x ≠ 0) : ChPost w j (.returned (.tuple #[.int .i64 a, .int .i64 b, .int .i64 x])) w2 := ⟨a, b, x, rfl, hc, fun e => absurd e hx⟩
set_option maxRecDepth 100000 in
set_option maxHeartbeats 16000000 in
theorem refCheck_any (w : World) (j : Jb) (hj : JbAt w j) :
    Calls Try.prog 45 #[.agg (jbC j)] w (ChPost w j) := by
  obtain ⟨w2, hw2⟩ : ∃ w2, w.alloc (.cells (jbC j) 48) = w2 := ⟨_, rfl⟩
  have hc2 : Chg Non w w2 := hw2 ▸ (Chg.refl _ _).alloc _
  have hbJ : Blk w2 w.heap.size 48 (jbC j) := hw2 ▸ Blk.new w _ _
  have HJ := Lib.hid hj
  have Hc2 := Lib.hid hc2
  have jl := hbJ.lt
  have j0 : w2.cell? ⟨w.heap.size, 0, none⟩ = some (.slice j.fA j.fn j.fc) := hbJ.cell 0
  have j1 : w2.cell? ⟨w.heap.size, 1, none⟩ = some (.int .i64 j.main) := hbJ.cell 1
  have j2 : w2.cell? ⟨w.heap.size, 2, none⟩ = some (.slice j.aA j.an j.ac) := hbJ.cell 2
  have j3 : w2.cell? ⟨w.heap.size, 3, none⟩ = some (.int .i64 j.fuel) := hbJ.cell 3
  have j4 : w2.cell? ⟨w.heap.size, 4, none⟩ = some (.int .i64 j.tasks) := hbJ.cell 4
  have HbJ := Lib.hid hbJ
  unfold jbC at hw2
  clear hc2 hbJ hj
  by_cases h1 : j.fn = 0
  · have Hb := Lib.hid (ChPost.bad (w := w) (j := j) Hc2.out (a := 0) (b := 0) (x := 14) (by omega))
    have h2 : ((j.fn : Int) == 0) = true := by rw [h1]; rfl
    unfold jbC
    clear h1
    go_enter Try.func45, Try.ntmps45
    go_wp2_with fail
    exact bodyPost_ret (v := .tuple #[.int .i64 0, .int .i64 0, .int .i64 14]) (by simp [results, Try.results45, go_sem]) rfl Hb.out
  have h1b : ((j.fn : Int) == 0) = false := beq_eq_false_iff_ne.2 (by omega)
  by_cases h2 : 32 < j.fn
  · have Hb := Lib.hid (ChPost.bad (w := w) (j := j) Hc2.out (a := 0) (b := 0) (x := 3) (by omega))
    unfold jbC
    clear h1
    go_enter Try.func45, Try.ntmps45
    go_wp2_with fail
    exact bodyPost_ret (v := .tuple #[.int .i64 0, .int .i64 0, .int .i64 3]) (by simp [results, Try.results45, go_sem]) rfl Hb.out
  have h32 : j.fn ≤ 32 := by omega
  have h3 : j.fuel < 1 ∨ (1 ≤ j.fuel ∧ 5000 < j.fuel) ∨ (1 ≤ j.fuel ∧ j.fuel ≤ 5000 ∧ j.tasks < 1) ∨ (1 ≤ j.fuel ∧ j.fuel ≤ 5000 ∧ 1 ≤ j.tasks ∧ 500 < j.tasks) ∨ (1 ≤ j.fuel ∧ j.fuel ≤ 5000 ∧ 1 ≤ j.tasks ∧ j.tasks ≤ 500) := by omega
  have hb16 : ∀ (h3 : j.fuel < 1 ∨ (1 ≤ j.fuel ∧ 5000 < j.fuel) ∨ (1 ≤ j.fuel ∧ j.fuel ≤ 5000 ∧ j.tasks < 1) ∨ (1 ≤ j.fuel ∧ j.fuel ≤ 5000 ∧ 1 ≤ j.tasks ∧ 500 < j.tasks)), Calls Try.prog 45 #[.agg (jbC j)] w (ChPost w j) := by
    have Hb := Lib.hid (ChPost.bad (w := w) (j := j) Hc2.out (a := 0) (b := 0) (x := 16) (by omega))
    unfold jbC
    clear h1 h2 h3
    rintro (h3 | ⟨h3, h4⟩ | ⟨h3, h4, h5⟩ | ⟨h3, h4, h5, h6⟩)
    all_goals
      go_enter Try.func45, Try.ntmps45
      go_wp2_with fail
      exact bodyPost_ret (v := .tuple #[.int .i64 0, .int .i64 0, .int .i64 16]) (by simp [results, Try.results45, go_sem]) rfl Hb.out
  rcases h3 with h3 | h3 | h3 | h3 | ⟨h3, h4, h5, h6⟩
  · exact hb16 (.inl h3)
  · exact hb16 (.inr (.inl h3))
  · exact hb16 (.inr (.inr (.inl h3)))
  · exact hb16 (.inr (.inr (.inr h3)))
  clear hb16 h1 h2
  have hm : j.main < 0 ∨ (0 ≤ j.main ∧ (j.fn : Int) ≤ j.main) ∨ (0 ≤ j.main ∧ j.main < j.fn) := by omega
  rcases hm with hm | ⟨hm, hm2⟩ | ⟨hm, hm2⟩
  · have Hb := Lib.hid (ChPost.bad (w := w) (j := j) Hc2.out (a := 0) (b := 0) (x := 14) (by omega))
    unfold jbC
    go_enter Try.func45, Try.ntmps45
    go_wp2_with fail
    exact bodyPost_ret (v := .tuple #[.int .i64 0, .int .i64 0, .int .i64 14]) (by simp [results, Try.results45, go_sem]) rfl Hb.out
  · have Hb := Lib.hid (ChPost.bad (w := w) (j := j) Hc2.out (a := 0) (b := 0) (x := 14) (by omega))
    unfold jbC
    go_enter Try.func45, Try.ntmps45
    go_wp2_with fail
    exact bodyPost_ret (v := .tuple #[.int .i64 0, .int .i64 0, .int .i64 14]) (by simp [results, Try.results45, go_sem]) rfl Hb.out
  obtain ⟨m, hmm⟩ : ∃ m : Nat, j.main = m := ⟨j.main.toNat, by omega⟩
  obtain ⟨ad, fm, hA, hfm, c0, c1, _, _⟩ := HJ.out.fns.get (k := m) (by omega)
  have Hjc : Hid (jbC j = #[.slice (some ad) j.fn j.fc, .int .i64 m, .slice j.aA j.an j.ac, .int .i64 j.fuel, .int .i64 j.tasks]) := by show _ = _; unfold jbC; rw [hA, hmm]
  have Hl : Hid (j.fn = j.F.length) := HJ.out.fns.len
  have Han : Hid (j.an = j.args.length) := HJ.out.args.lenMap
  replace c1 := Hc2.out.cell c1 id
  have hcc : (ad.add (m * 4)).block < w2.heap.size := World.block_lt_of_cell? w2 _ (Hc2.out.cell c0 id)
  clear c0
  rw [hA] at hw2 j0
  rw [hmm] at hw2 j1 hm hm2
  have hm3 : m < j.fn := by omega
  have Hmm := Lib.hid hmm
  have Hfm := Lib.hid hfm
  have HA := Lib.hid hA
  clear hm2 hmm hfm hA
  have hargn := HJ.out.argn
  have D1 : decide ((m : Int) < 0) = false := decide_eq_false (by omega)
  have D2 : decide (j.fn ≤ m) = false := decide_eq_false (by omega)
  by_cases ha : (j.an : Int) = fm.args
  · have ha2 : ((j.an : Int) == fm.args) = true := by rw [ha]; exact beq_self_eq_true _
    have ha3 : ((j.an : Int) != fm.args) = false := by rw [ha]; exact bne_self_eq_false _
    have Ha := Lib.hid ha
    rw [Hjc.out]
    clear ha
    go_enter Try.func45, Try.ntmps45
    go_wp2_with fail
    go_quiet (fail)
    go_wp2_with fail
    clear j0 j1 j2 j3 j4 jl hw2 c1 hcc D1 D2
    obtain ⟨hB3, hC3⟩ : (∀ nq, Blk (w2.drewN nq) w.heap.size 48 (jbC j)) ∧ (∀ nq, Chg Non w (w2.drewN nq)) := ⟨fun nq => HbJ.out.drewN nq, fun nq => Hc2.out.drewN nq⟩
    have HB3 := Lib.hid hB3
    have HC3 := Lib.hid hC3
    clear hB3 hC3
    go_loopw [5] (fun i wx => ∃ q : Nat, q ≤ j.fn ∧ i = .int .i64 q ∧ Hid (∀ p f, p < q → j.F[p]? = some f → FnOk j.fn f ∧ (ArgsOk j.F → ∃ D, Closed j.F f.code D)) ∧ Blk wx w.heap.size 48 (jbC j) ∧ Chg Non w wx) (fun i _ => j.fn - (intOf i).toNat)
    case atStart => exact ⟨0, Nat.zero_le _, rfl, fun p i h => by omega, HB3.out _, HC3.out _⟩
    case round =>
      obtain ⟨q, hq, rfl, hIq, hB, hCq⟩ := hrel
      have HB := Lib.hid hB
      have HCq := Lib.hid hCq
      rw [Hjc.out] at hB
      have jl := hB.lt
      have j0 : wr.cell? ⟨w.heap.size, 0, none⟩ = some (.slice (some ad) j.fn j.fc) := hB.cell 0
      by_cases hlt : q < j.fn
      · obtain ⟨f, hf⟩ : ∃ f, j.F[q]? = some f := ⟨_, List.getElem?_eq_getElem (by have := Hl.out; omega)⟩
        have hF := refFunc_any wr j (HJ.out.non hCq) q f hlt hf h32
        rw [Hjc.out] at hF
        have HF := Lib.hid hF
        have Hf := Lib.hid hf
        have j1 : wr.cell? ⟨w.heap.size, 1, none⟩ = some (.int .i64 m) := hB.cell 1
        have j2 : wr.cell? ⟨w.heap.size, 2, none⟩ = some (.slice j.aA j.an j.ac) := hB.cell 2
        have j3 : wr.cell? ⟨w.heap.size, 3, none⟩ = some (.int .i64 j.fuel) := hB.cell 3
        have j4 : wr.cell? ⟨w.heap.size, 4, none⟩ = some (.int .i64 j.tasks) := hB.cell 4
        clear hB hCq hF hf
        go_wp2_with fail
        refine HF.out.mono ?_
        rintro e w6 ⟨at_, x, rfl, hc6, hp⟩
        have HC6 := Lib.hid (HCq.out.non hc6)
        have HB6 := Lib.hid (HB.out.non hc6)
        have Hp := Lib.hid hp
        clear hc6 hp j0 j1 j2 j3 j4 jl
        by_cases hx0 : x = 0
        · subst hx0
          go_wp2_with fail
          go_roundw
          case rel =>
            refine ⟨q + 1, by omega, by go_num, fun p g hp hg => ?_, HB6.out, HC6.out⟩
            by_cases hpq : p = q
            · subst hpq
              rw [Hf.out] at hg
              obtain rfl := Option.some.inj hg
              exact Hp.out trivial
            · exact hIq.out p g (by omega) hg
          case measure => simp [intOf]; omega
        · have hx1 : (x == 0) = false := beq_eq_false_iff_ne.2 hx0
          have Hb := Lib.hid (ChPost.bad (w := w) (j := j) HC6.out (a := q) (b := at_) (x := x) hx0)
          clear hx0
          go_wp2_with fail
          exact bodyPost_ret (v := .tuple #[.int .i64 q, .int .i64 at_, .int .i64 x]) (by simp [results, Try.results45, go_sem]) rfl Hb.out
      · have Hres : Hid (ChPost w j (.returned (.tuple #[.int .i64 0, .int .i64 0, .int .i64 0])) wr) := by
          have hall : ∀ f ∈ j.F, FnOk j.fn f ∧ (ArgsOk j.F → ∃ D, Closed j.F f.code D) := fun f hf => by
            obtain ⟨p, hp⟩ := List.getElem?_of_mem hf
            have h1 := (List.getElem?_eq_some_iff.1 hp).1
            have h2 := Hl.out
            exact hIq.out p f (by omega) hp
          have hA : ArgsOk j.F := fun f hf => (hall f hf).1.args
          have h2 := Hl.out
          refine ⟨0, 0, 0, rfl, HCq.out, fun _ => ⟨by omega, ⟨h3, h4⟩, ⟨h5, h6⟩, ?_, ?_, fun f hf => h2 ▸ (hall f hf).1, fun f hf => (hall f hf).2 hA⟩⟩
          · rw [Hmm.out]
            omega
          · rw [← Han.out, Ha.out, Hmm.out]
            unfold argsAt
            rw [Int.toNat_natCast, Hfm.out]
            rfl
        clear hB hCq
        go_wp2_with fail
        exact bodyPost_ret (v := .tuple #[.int .i64 0, .int .i64 0, .int .i64 0]) (by simp [results, Try.results45, go_sem]) rfl Hres.out
  · have Hb := Lib.hid (fun nq => ChPost.bad (w := w) (j := j) (Hc2.out.drewN nq) (a := 0) (b := 0) (x := 15) (by omega))
    have ha2 : ((j.an : Int) == fm.args) = false := beq_eq_false_iff_ne.2 ha
    rw [Hjc.out]
    clear ha
    go_enter Try.func45, Try.ntmps45
    go_wp2_with fail
    go_quiet (fail)
    go_wp2_with fail
    exact bodyPost_ret (v := .tuple #[.int .i64 0, .int .i64 0, .int .i64 15]) (by simp [results, Try.results45, go_sem]) rfl (Hb.out _)

abbrev rkD : RowKind Try.prog where
  t := 89
  e := 27
  z := .slice none 0 0
  size := 1
  bytes := 24
  ht := Try.underlying89
  info := by kernel_rfl
  hz := rfl
  hs := by decide
  hb := by decide
/-- A row of depths, and where it lies. -/
structure DRow where
  A : Option Addr
  n : Nat
  c : Nat
  D : List Int
def cellD (r : DRow) : Value := .slice r.A r.n r.c
def dvs (R : List DRow) : List Value := R.map cellD
theorem dvs_one (R : List DRow) : ∀ u ∈ dvs R, u.oneCell' = true := by
  intro u hu
  simp only [dvs, List.mem_map] at hu
  obtain ⟨r, _, rfl⟩ := hu
  rfl
def knC (j : Jb) (dA : Option Addr) (dn dc : Nat) : Array Value := #[.slice j.fA j.fn j.fc, .int .i64 j.main, .slice j.aA j.an j.ac, .int .i64 j.fuel, .int .i64 j.tasks, .slice dA dn dc]
/-- The rows of depths of the first functions. -/
def DRows (w : World) (j : Jb) (R : List DRow) : Prop :=
  ∀ (p : Nat) (f : Fn) (r : DRow), j.F[p]? = some f → R[p]? = some r → Closed j.F f.code r.D ∧ r.n = f.cn ∧ Rds w 1 r.A r.n (iv r.D)
/-- A job that is known. -/
structure KnAt (w : World) (b : Nat) (j : Jb) (dA : Option Addr) (dc : Nat) (R : List DRow) : Prop where
  blk : Blk w b 91 (knC j dA j.fn dc)
  job : JbAt w j
  ok : JbOk j
  rds : Rds w 1 dA j.fn (dvs R)
  rows : DRows w j R
theorem KnAt.non {w w2 : World} {b : Nat} {j : Jb} {dA : Option Addr} {dc : Nat} {R : List DRow} (h : KnAt w b j dA dc R) (hc : Chg Non w w2) : KnAt w2 b j dA dc R :=
  ⟨h.blk.non hc, h.job.non hc, h.ok, h.rds.non hc, fun p f r h1 h2 => let ⟨a, b, c⟩ := h.rows p f r h1 h2; ⟨a, b, c.non hc⟩⟩
/-- What Know answers. -/
def KwPost (w : World) (j : Jb) (e : Ending) (w2 : World) : Prop :=
  ∃ v x, e = .returned (.tuple #[v, .int .i64 x]) ∧ Chg Non w w2 ∧ (x = 0 → ∃ b dA dc R, v = .pointer (some ⟨b, 0, none⟩) ∧ KnAt w2 b j dA dc R)
/-- The loop of Know: q rows are laid. -/
structure RelK (w : World) (j : Jb) (kb q : Nat) (A : Option Addr) (c : Nat) (R : List DRow) (wx : World) : Prop where
  blk : Blk wx kb 91 (knC j A q c)
  own : OwnR rkD wx (kb + 1) (.slice A q c) q (dvs R)
  len : R.length = q
  rows : DRows wx j R
  far : ∀ r ∈ R, ∀ ad, r.A = some ad → kb < ad.block ∧ ad.block < wx.heap.size ∧ (Value.slice A q c).ownBlock ≠ some ad.block
  chg : Chg Non w wx
  box : Blk wx w.heap.size 48 (jbC j)
  lt : w.heap.size < kb
theorem RelK.non {w : World} {j : Jb} {kb q : Nat} {A : Option Addr} {c : Nat} {R : List DRow} {wx w2 : World} (h : RelK w j kb q A c R wx) (hc : Chg Non wx w2) : RelK w j kb q A c R w2 :=
  ⟨h.blk.non hc, h.own.non hc, h.len, fun p f r h1 h2 => let ⟨a, b, c⟩ := h.rows p f r h1 h2; ⟨a, b, c.non hc⟩, fun r hr ad e => let ⟨a, b, c⟩ := h.far r hr ad e; ⟨a, Nat.lt_of_lt_of_le b hc.size, c⟩, h.chg.non hc, h.box.non hc, h.lt⟩
/-- What depths leaves, for good. -/
def DepK (w : World) (j : Jb) (f : Fn) (v : Value) (wx : World) : Prop :=
  ∃ A n c at_ x D, v = .tuple #[.slice A n c, .int .i64 at_, .int .i64 x] ∧ Closed j.F f.code D ∧ n = f.cn ∧ Rds wx 1 A n (iv D) ∧ ∀ ad, A = some ad → w.heap.size ≤ ad.block ∧ ad.block < wx.heap.size
theorem DepK.non {w : World} {j : Jb} {f : Fn} {v : Value} {wx w2 : World} (h : DepK w j f v wx) (hc : Chg Non wx w2) : DepK w j f v w2 :=
  let ⟨A, n, c, at_, x, D, h1, h2, h3, h4, h5⟩ := h; ⟨A, n, c, at_, x, D, h1, h2, h3, h4.non hc, fun ad e => ⟨(h5 ad e).1, Nat.lt_of_lt_of_le (h5 ad e).2 hc.size⟩⟩
theorem RelK.push {w w5 w6 w7 : World} {j : Jb} {kb q : Nat} {A A6 A7 : Option Addr} {c n6 c6 c7 : Nat} {at_ x : Int} {R : List DRow} {f : Fn} (h : RelK w j kb q A c R w6) (hdk : DepK w5 j f (.tuple #[.slice A6 n6 c6, .int .i64 at_, .int .i64 x]) w6) (hf : j.F[q]? = some f) (h5 : kb < w5.heap.size) (ho5 : ∀ b, (Value.slice A q c).ownBlock = some b → b < w5.heap.size)
    (o7 : OwnR rkD w7 (kb + 1) (.slice A7 (q + 1) c7) (q + 1) (dvs R ++ [.slice A6 n6 c6])) (d7 : Chg (fun g => (Value.slice A q c).ownBlock = some g) w6 w7) (hv7 : ∀ b, (Value.slice A7 (q + 1) c7).ownBlock = some b → (Value.slice A q c).ownBlock = some b ∨ w6.heap.size ≤ b) :
    ∃ R2, RelK w j kb (q + 1) A7 c7 R2 (w7.setCell ⟨kb, 5, none⟩ (.slice A7 (q + 1) c7)) := by
  obtain ⟨A6', n6', c6', at2, x2, D, e, hcl, hn, hrd, hfr⟩ := hdk
  cases e
  have hS : Chg (fun b => b = kb) w7 (w7.setCell ⟨kb, 5, none⟩ (.slice A7 (q + 1) c7)) := (Chg.refl _ _).set1 5 _
  have hkb : ∀ b, (Value.slice A q c).ownBlock = some b → kb < b := fun b hb => by have := (h.own.lt hb).1; omega
  have hb7 := (h.blk.chg d7 (fun e => by have := hkb _ e; omega)).put 5 (.slice A7 (q + 1) c7)
  have hlt := h.lt
  have hsz : w7.heap.size = (w7.setCell ⟨kb, 5, none⟩ (.slice A7 (q + 1) c7)).heap.size := by simp [World.setCell]
  have hdd : ∀ r ∈ R ++ [⟨A6, n6, c6, D⟩], ∀ ad, r.A = some ad → kb < ad.block ∧ ad.block < w6.heap.size ∧ (Value.slice A q c).ownBlock ≠ some ad.block := fun r hr ad e => by
    rcases List.mem_append.1 hr with hr | hr
    · exact h.far r hr ad e
    · simp only [List.mem_singleton] at hr
      subst hr
      have h1 := hfr ad e
      exact ⟨by omega, h1.2, fun e2 => by have := ho5 _ e2; omega⟩
  refine ⟨R ++ [⟨A6, n6, c6, D⟩], ?_, ?_, by rw [List.length_append, h.len]; rfl, fun p f2 r h1 h2 => ?_, fun r hr ad e => ?_, (h.chg.trans2 d7 (fun b e => .inr (by have := hkb b e; have := h.chg.size; omega))).trans2 hS (fun b e => .inr (by have e : b = kb := e; omega)), (h.box.chg d7 (fun e => by have := hkb _ e; omega)).chg hS (fun e => by have e : w.heap.size = kb := e; omega), h.lt⟩
  · unfold knC at hb7 ⊢
    simp only [List.setIfInBounds_toArray, List.set_cons_succ, List.set_cons_zero] at hb7
    exact hb7
  · have := o7.chg hS (fun g hg e => by have := (o7.lt hg).1; have e : g = kb := e; omega)
    rw [show dvs (R ++ [⟨A6, n6, c6, D⟩]) = dvs R ++ [.slice A6 n6 c6] by simp [dvs, cellD]]
    exact this
  · have hr := hdd r (List.mem_of_getElem? h2)
    have key : Closed j.F f2.code r.D ∧ r.n = f2.cn ∧ Rds w6 1 r.A r.n (iv r.D) := by
      by_cases hp : p < R.length
      · rw [List.getElem?_append_left hp] at h2
        exact h.rows p f2 r h1 h2
      · have hp2 := (List.getElem?_eq_some_iff.1 h2).1
        rw [List.length_append] at hp2
        simp only [List.length_singleton] at hp2
        obtain rfl : p = q := by have := h.len; omega
        rw [List.getElem?_append_right (by omega), show p - R.length = 0 by have := h.len; omega] at h2
        simp only [List.getElem?_cons_zero, Option.some.injEq] at h2
        subst h2
        rw [hf] at h1
        obtain rfl := Option.some.inj h1
        exact ⟨hcl, hn, hrd⟩
    exact ⟨key.1, key.2.1, (key.2.2.chg d7 (fun ad e => (hr ad e).2.2)).chg hS (fun ad e e2 => by have := (hr ad e).1; have e2 : ad.block = kb := e2; omega)⟩
  · have hr2 := hdd r hr ad e
    refine ⟨hr2.1, by rw [← hsz]; exact Nat.lt_of_lt_of_le hr2.2.1 d7.size, fun e2 => ?_⟩
    rcases hv7 _ e2 with e3 | e3
    · exact hr2.2.2 e3
    · have := hr2.2.1
      omega
set_option maxRecDepth 100000 in
set_option maxHeartbeats 16000000 in
theorem refKnow_any (w : World) (j : Jb) (hj : JbAt w j) :
    Calls Try.prog 28 #[.agg (jbC j)] w (KwPost w j) := by
  obtain ⟨w2, hw2⟩ : ∃ w2, w.alloc (.cells (jbC j) 48) = w2 := ⟨_, rfl⟩
  have hc2 : Chg Non w w2 := hw2 ▸ (Chg.refl _ _).alloc _
  have hbJ : Blk w2 w.heap.size 48 (jbC j) := hw2 ▸ Blk.new w _ _
  have HJ := Lib.hid hj
  have Hc2 := Lib.hid hc2
  have HbJ := Lib.hid hbJ
  have hCh := refCheck_any w2 j (hj.non hc2)
  have hl := hbJ.lt
  have j0 : w2.cell? ⟨w.heap.size, 0, none⟩ = some (.slice j.fA j.fn j.fc) := hbJ.cell 0
  have j1 : w2.cell? ⟨w.heap.size, 1, none⟩ = some (.int .i64 j.main) := hbJ.cell 1
  have j2 : w2.cell? ⟨w.heap.size, 2, none⟩ = some (.slice j.aA j.an j.ac) := hbJ.cell 2
  have j3 : w2.cell? ⟨w.heap.size, 3, none⟩ = some (.int .i64 j.fuel) := hbJ.cell 3
  have j4 : w2.cell? ⟨w.heap.size, 4, none⟩ = some (.int .i64 j.tasks) := hbJ.cell 4
  unfold jbC at hw2 hCh
  unfold jbC
  have HCh := Lib.hid hCh
  clear hj hc2 hbJ hCh
  go_enter Try.func28, Try.ntmps28
  go_wp2_with fail
  refine HCh.out.mono ?_
  clear j0 j1 j2 j3 j4 hl hw2
  rintro e w3 ⟨a, b, x, rfl, hc3, hp⟩
  have hC3 := Hc2.out.non hc3
  have hB3 := HbJ.out.non hc3
  have HC3 := Lib.hid hC3
  by_cases hx : x = 0
  · subst hx
    have hok := hp rfl
    have Hok := Lib.hid hok
    have hbl := hB3.lt
    have j0 : w3.cell? ⟨w.heap.size, 0, none⟩ = some (.slice j.fA j.fn j.fc) := hB3.cell 0
    have j1 : w3.cell? ⟨w.heap.size, 1, none⟩ = some (.int .i64 j.main) := hB3.cell 1
    have j2 : w3.cell? ⟨w.heap.size, 2, none⟩ = some (.slice j.aA j.an j.ac) := hB3.cell 2
    have j3 : w3.cell? ⟨w.heap.size, 3, none⟩ = some (.int .i64 j.fuel) := hB3.cell 3
    have j4 : w3.cell? ⟨w.heap.size, 4, none⟩ = some (.int .i64 j.tasks) := hB3.cell 4
    have HB3 := Lib.hid hB3
    clear hp hc3 hC3 hB3 hok
    have HL : Hid (j.fn = j.F.length) := HJ.out.fns.len
    go_wp2_with fail
    clear j0 j1 j2 j3 j4 hbl
    obtain ⟨kb, hkb⟩ : ∃ kb, w3.heap.size = kb := ⟨_, rfl⟩
    have hR0 : RelK w j kb 0 none 0 [] (w3.alloc (.cells (knC j none 0 0) 91)) := by
      refine ⟨hkb ▸ Blk.new w3 _ _, OwnR.nil _ _ _, rfl, fun p f r _ h => by simp at h, fun r h => (by cases h), HC3.out.alloc _, HB3.out.alloc _, ?_⟩
      have := HB3.out.lt
      omega
    unfold knC at hR0
    rw [hkb]
    have HR0 := Lib.hid hR0
    clear hR0 hkb
    go_loopw [8] (fun i wx => ∃ (q : Nat) (A : Option Addr) (c : Nat) (R : List DRow), q ≤ j.fn ∧ i = .int .i64 q ∧ Hid (RelK w j kb q A c R wx)) (fun i _ => j.fn - (intOf i).toNat)
    case atStart => exact ⟨0, none, 0, [], Nat.zero_le _, rfl, HR0.out⟩
    case round =>
      clear HR0
      obtain ⟨q, A, c, R, hq, rfl, hR⟩ := hrel
      have hBj := hR.out.box
      have hjl := hBj.lt
      have j0 : wr.cell? ⟨w.heap.size, 0, none⟩ = some (.slice j.fA j.fn j.fc) := hBj.cell 0
      by_cases hlt : q < j.fn
      · obtain ⟨ad, f, hA, hf, c0, c1, c2, c3⟩ := (HJ.out.non hR.out.chg).fns.get hlt
        have hfm := List.mem_of_getElem? hf
        have hcd := (HJ.out.non hR.out.chg).code f hfm
        have hD := fun (wx : World) (h : Chg Non wr wx) => refDepths_any wx j f ((HJ.out.non hR.out.chg).fns.non h) (hcd.1.non h) (by have := (Hok.out.fns f hfm).code; have := flat_eq cellI_len (by decide) hcd.1; omega) (by rw [HL.out]; exact (Hok.out.fns f hfm).ins)
        unfold jbC fnC at hD
        rw [hA] at hD j0
        obtain ⟨w5, hw5⟩ : ∃ w5, wr = w5 := ⟨_, rfl⟩
        rw [hw5] at hD hR hBj j0 c0 c1 c2 c3 hjl ⊢
        have HD := Lib.hid hD
        have Hf := Lib.hid hf
        have HBj := Lib.hid hBj
        have Hw5 := Lib.hid hw5
        have HA := Lib.hid hA
        have hjw : (ad.add (q * 4)).block < w5.heap.size := World.block_lt_of_cell? w5 _ c0
        have hjw2 : ad.block < w5.heap.size := by rw [← block_add ad (q * 4)]; exact hjw
        have b1 : (0 : Int) ≤ (q : Int) := by omega
        have b2 : (q : Int) < j.fn := by omega
        have g0 : ∀ wx, Chg Non w5 wx → wx.cell? ⟨w.heap.size, 0, none⟩ = some (.slice (some ad) j.fn j.fc) := fun wx h => h.cell j0 id
        have g1 : ∀ wx, Chg Non w5 wx → wx.cell? ⟨w.heap.size, 1, none⟩ = some (.int .i64 j.main) := fun wx h => (HBj.out.non h).cell 1
        have g2 : ∀ wx, Chg Non w5 wx → wx.cell? ⟨w.heap.size, 2, none⟩ = some (.slice j.aA j.an j.ac) := fun wx h => (HBj.out.non h).cell 2
        have g3 : ∀ wx, Chg Non w5 wx → wx.cell? ⟨w.heap.size, 3, none⟩ = some (.int .i64 j.fuel) := fun wx h => (HBj.out.non h).cell 3
        have g4 : ∀ wx, Chg Non w5 wx → wx.cell? ⟨w.heap.size, 4, none⟩ = some (.int .i64 j.tasks) := fun wx h => (HBj.out.non h).cell 4
        have k0 : ∀ wx, Chg Non w5 wx → wx.cell? (ad.add (q * 4)) = some (.string f.nm) := fun wx h => h.cell c0 id
        have k1 : ∀ wx, Chg Non w5 wx → wx.cell? ⟨(ad.add (q * 4)).block, (ad.add (q * 4)).off + 1, none⟩ = some (.int .i64 f.args) := fun wx h => h.cell c1 id
        have k2 : ∀ wx, Chg Non w5 wx → wx.cell? ⟨(ad.add (q * 4)).block, (ad.add (q * 4)).off + 2, none⟩ = some (.int .i64 f.locs) := fun wx h => h.cell c2 id
        have k3 : ∀ wx, Chg Non w5 wx → wx.cell? ⟨(ad.add (q * 4)).block, (ad.add (q * 4)).off + 3, none⟩ = some (.slice f.cA f.cn f.cc) := fun wx h => h.cell c3 id
        have Hk5 := Lib.hid (hR.out.blk.lt)
        have Ho5 : Hid (∀ b, (Value.slice A q c).ownBlock = some b → b < w5.heap.size) := fun b hb => (hR.out.own.lt hb).2
        have Hdep := Lib.hid (Hok.out.dep f hfm)
        clear hD hf hBj hw5 hA hfm hcd c0 c1 c2 c3
        go_wp2_with fail
        refine st_region _ Non [6] [] (fun _ _ _ _ => True) (fun _ _ v wx => DepK w5 j f v wx) (fun _ _ v => ∃ A n c at_ x, v = .tuple #[.slice A n c, .int .i64 at_, .int .i64 x]) (fun _ => True) (by kernel_rfl) (okB_of_F _ (by kernel_rfl)) (fun _ h => h.elim) trivial (fun _ _ _ => trivial) ?_
        repeat (first | (refine st_pass (by rfl) ?_; simp only [Act.put, List.setIfInBounds_toArray, List.set_cons_succ, List.set_cons_zero]) | (refine st_plain (Non) (w5) rfl rfl (f := ?_) (by rfl) rfl rfl (fun w hC hG => ?_) ?_; rotate_left; (clear hG; first | (go_simp; done) | (go_simp; with_reducible rfl) | (simp [*, go_sem, ↓IntWalk.iteOmega]; done) | (simp [*, go_sem, ↓IntWalk.iteOmega]; with_reducible rfl)); simp only [Act.put, List.setIfInBounds_toArray, List.set_cons_succ, List.set_cons_zero]))
        refine st_major (Non) (w5) rfl rfl (by rfl) rfl (⟨_, none, 0, 0, 0, 0, rfl⟩) (fun _ _ _ _ h2 h => h.non h2) (fun _ _ _ _ => trivial) (fun w hC hG hS => settle_of (r2 := ?_) ?_ ?_) ?_
        rotate_left
        (first | (go_simp; done) | (go_simp; rfl))
        · refine settle_enter ((HD.out _ hC).mono ?_)
          rintro e w6 ⟨A6, n6, c6, at_, x, D, rfl, hc6, hp⟩
          refine ⟨_, rfl, ⟨A6, n6, c6, at_, x, rfl⟩, hc6, trivial, ?_⟩
          rcases hp Hok.out.argsOk with ⟨h1, h2, h3, h4, h5⟩ | ⟨_, h2⟩
          · exact ⟨A6, n6, c6, at_, x, D, rfl, h2, h3, h4, fun ad e => ⟨Nat.le_trans hC.size (h5 ad e).1, (h5 ad e).2⟩⟩
          · obtain ⟨D2, hD2⟩ := Hdep.out
            exact absurd hD2 (h2 D2)
        rintro v ⟨A6, n6, c6, at_, x, rfl⟩
        simp only [Act.put, List.setIfInBounds_toArray, List.set_cons_succ, List.set_cons_zero]
        repeat (first | (refine st_pass (by rfl) ?_; simp only [Act.put, List.setIfInBounds_toArray, List.set_cons_succ, List.set_cons_zero]) | (refine st_plain (Non) (w5) rfl rfl (f := ?_) (by rfl) rfl rfl (fun w hC hG => ?_) ?_; rotate_left; (clear hG; first | (go_simp; done) | (go_simp; with_reducible rfl) | (simp [*, go_sem, ↓IntWalk.iteOmega]; done) | (simp [*, go_sem, ↓IntWalk.iteOmega]; with_reducible rfl)); simp only [Act.put, List.setIfInBounds_toArray, List.set_cons_succ, List.set_cons_zero]))
        refine st_end Non w5 rfl rfl (fun w6 hC6 _ hG => ?_)
        have hdk : Hid (DepK w5 j f (.tuple #[.slice A6 n6 c6, .int .i64 at_, .int .i64 x]) w6) := hG 6
        have hR6 := hR.out.non hC6
        have HR6 := Lib.hid hR6
        have hb6 := hR6.blk
        have ho6 := hR6.own
        have k5 : w6.cell? ⟨kb, 5, none⟩ = some (.slice A q c) := hb6.cell 5
        have kl := hb6.lt
        have Hkb6 := Lib.hid hb6
        have hq32 : q ≤ 1000 := by have := Hok.out.nF; have := HL.out; omega
        have hs6 := Nat.succ_le_of_lt kl
        clear hG hC6 hR hR6 hb6 g0 g1 g2 g3 g4 k0 k1 k2 k3 hjw hjw2 hjl j0
        go_wp2_with (at_builtin; refine appR1s (K := rkD) rfl (.tmp 46) (.tmp 48) rfl ho6 rfl (cs := #[.slice A6 n6 c6]) rfl rfl (dvs_one [⟨A6, n6, c6, []⟩]) ?_ ?_ ?_; (next => omega); (next => exact hs6); intro A7 c7 w7 o7 d7 hv7; have hb7 := Hkb6.out.chg d7 (fun e => absurd (ho6.lt e).1 (by omega)); have kl7 := hb7.lt; have kf7 := hb7.frozen 5; have kc7 : w7.cell? ⟨kb, 5, none⟩ = some (.slice A q c) := hb7.cell 5)
        obtain ⟨R2, hR2⟩ := HR6.out.push hdk.out Hf.out Hk5.out Ho5.out o7 d7 hv7
        have HR2 := Lib.hid hR2
        clear hR2 hb7 kl7 kf7 kc7 hv7 d7 o7
        go_roundw
        case rel => exact ⟨q + 1, A7, c7, R2, by omega, by go_num, HR2.out⟩
        case measure => simp [intOf]; omega
      · obtain rfl : q = j.fn := by omega
        have Hb : Hid (KwPost w j (.returned (.tuple #[.pointer (some ⟨kb, 0, none⟩), .int .i64 0])) wr) :=
          ⟨_, 0, rfl, hR.out.chg, fun _ => ⟨kb, A, c, R, rfl, hR.out.blk, HJ.out.non hR.out.chg, Hok.out, hR.out.own.rds, hR.out.rows⟩⟩
        clear hBj
        go_wp2_with fail
        exact bodyPost_ret (v := .tuple #[.pointer (some ⟨kb, 0, none⟩), .int .i64 0]) (by simp [results, Try.results28, go_sem]) rfl Hb.out
  · have hx1 : (x == 0) = false := beq_eq_false_iff_ne.2 hx
    have Hb : Hid (KwPost w j (.returned (.tuple #[.pointer none, .int .i64 x])) w3) := ⟨_, x, rfl, hC3, fun e => absurd e hx⟩
    clear hp hc3 hx hC3 hB3
    go_wp2_with fail
    exact bodyPost_ret (v := .tuple #[.pointer none, .int .i64 x]) (by simp [results, Try.results28, go_sem]) rfl Hb.out
end Go.Proofs.Yteinbdifncdaiaa
