/-
  A cache with those that wait, whole; gleanerlaw23.alive.
-/
import Derived.Test.YtogmnhneobdklaaCacheAsk
import Derived.Test.YtogmnhneobdklaaCachePut
import Derived.Test.YtogmnhneobdklaaCacheForget
namespace Go.Proofs.Ytogmnhneobdklaa
open Go.RowKit
set_option linter.unusedVariables false
set_option linter.unusedSimpArgs false

/-- Block g is a cache, with those that wait; G: all the blocks that it uses. -/
structure CW (w : World) (G : Nat → Prop) (g mw : Nat) (s : CaS) (n q : Nat) (f : ByteArray → Option Nat) (D : ByteArray → ByteArray → Bool) : Prop where
  mk_ ::
  ex : ∃ F FS, Ca w F g mw s ∧ Sets idKey idKey w FS mw n f D q ∧ (∀ b, F b → ¬ FS b) ∧ ∀ b, F b ∨ FS b → G b
  lt : ∀ b, G b → b < w.heap.size
section
variable {w w2 : World} {G : Nat → Prop} {g mw n q : Nat} {s : CaS} {f : ByteArray → Option Nat} {D : ByteArray → ByteArray → Bool}
theorem CW.chg {S : Nat → Prop} (h : CW w G g mw s n q f D) (hc : Chg S w w2) (hs : ∀ b, G b → ¬ S b) : CW w2 G g mw s n q f D := by
  obtain ⟨⟨F, FS, h1, h2, h3, h4⟩, h5⟩ := h
  exact ⟨⟨F, FS, h1.chg hc (fun b hb => hs b (h4 b (.inl hb))), h2.chg hc (fun b hb => hs b (h4 b (.inr hb))), h3, h4⟩, fun b hb => Nat.lt_of_lt_of_le (h5 b hb) hc.size⟩
theorem CW.non (h : CW w G g mw s n q f D) (hc : Chg Non w w2) : CW w2 G g mw s n q f D := h.chg hc fun _ _ => id
theorem CW.gl (h : CW w G g mw s n q f D) : g < w.heap.size := by
  obtain ⟨⟨F, FS, h1, _⟩, _⟩ := h
  exact h1.gF.2
theorem CW.congr {D2 : ByteArray → ByteArray → Bool} (h : CW w G g mw s n q f D) (hD : ∀ a y, D a y = D2 a y) : CW w G g mw s n q f D2 := by
  obtain ⟨⟨F, FS, h1, h2, h3, h4⟩, h5⟩ := h
  exact ⟨⟨F, FS, h1, h2.congr hD, h3, h4⟩, h5⟩
end

def NewW (w : World) (size : Int) (e : Ending) (w2 : World) : Prop :=
  ∃ g mw G, e = .returned (.pointer (some ⟨g, 0, none⟩)) ∧ CW w2 G g mw ⟨[], size, fun _ => none, 0⟩ 0 0 (fun _ => none) (fun _ _ => false) ∧ (∀ b, G b → w.heap.size ≤ b) ∧ Chg Non w w2
theorem cwNew (size : Int) (hs : 1 ≤ size) (w : World) : Calls Try.prog 6 #[.int .i64 size] w (NewW w size) := by
  refine (cacheNew_any size hs w).mono ?_
  rintro e w2 ⟨g, mw, rfl, h1, h2, h3, h4, hc⟩
  exact ⟨g, mw, fun b => w.heap.size ≤ b ∧ b < w2.heap.size, rfl, ⟨⟨_, _, h1, Sets.made h2, (fun b hb e => hb.2.2 e), fun b hb => hb.elim (fun h => ⟨h.1, h.2.1⟩) (fun e => by rw [show b = mw from e]; exact ⟨h3, h4⟩)⟩, fun b hb => hb.2⟩, fun b hb => hb.1, hc⟩

/-- Ask of a name that is not known. -/
def AskW (w : World) (G : Nat → Prop) (g mw n q : Nat) (s : CaS) (f : ByteArray → Option Nat) (D : ByteArray → ByteArray → Bool) (id who : ByteArray) (e : Ending) (w2 : World) : Prop :=
  ∃ G2 n2 f2, e = .returned (.tuple #[.agg #[.int .i64 0, .int .i64 0], .bool false, .bool (f id).isNone]) ∧ CW w2 G2 g mw s n2 (q + 1) f2 (fun a z => D a z || (decide (a = id) && decide (z = who))) ∧
    n2 = (if (f id).isSome then n else n + 1) ∧ (∀ a, a ≠ id → f2 a = f a) ∧ (f2 id).isSome = true ∧ (∀ b, G2 b → G b ∨ w.heap.size ≤ b) ∧ Chg G w w2
theorem cwAskNew (w : World) (G : Nat → Prop) (g mw n q : Nat) (s : CaS) (f : ByteArray → Option Nat) (D : ByteArray → ByteArray → Bool) (id who : ByteArray) (h : CW w G g mw s n q f D) (hv : vid id = true) (hv2 : vid who = true) (hr : s.res id = none) (hn : n ≤ 1000000) (hq : q ≤ 1000000) :
    Calls Try.prog 7 #[.pointer (some ⟨g, 0, none⟩), .string id, .string who] w (AskW w G g mw n q s f D id who) := by
  obtain ⟨⟨F, FS, h1, h2, h3, h4⟩, h5⟩ := h
  refine (askNew_any w F FS g mw n q s f D id who h1 h2 h3 hv hv2 hr hn hq).mono ?_
  rintro e w2 ⟨F2, n2, f2, rfl, hS, hn2, hf, hf2, hF2, hc⟩
  refine ⟨fun b => F b ∨ F2 b, n2, f2, rfl, ⟨⟨F, F2, h1.chg hc (fun b hb e => h3 b hb e), hS, fun b hb e => (hF2 b e).elim (h3 b hb) (fun h => by have := h1.lt b hb; omega), fun b hb => hb⟩, fun b hb => ?_⟩, hn2, hf, hf2, fun b hb => ?_, hc.mono (fun b e => h4 b (.inr e))⟩
  · rcases hb with hb | hb
    · have := h1.lt b hb; have := hc.size; omega
    · exact hS.lt b hb
  · rcases hb with hb | hb
    · exact .inl (h4 b (.inl hb))
    · exact (hF2 b hb).imp (fun h => h4 b (.inr h)) (fun h => h)
/-- Ask of a known name. -/
def KnownW (w : World) (G : Nat → Prop) (g mw n q : Nat) (s : CaS) (f : ByteArray → Option Nat) (D : ByteArray → ByteArray → Bool) (id : ByteArray) (x y : Int) (e : Ending) (w2 : World) : Prop :=
  e = .returned (.tuple #[.agg #[.int .i64 x, .int .i64 y], .bool true, .bool false]) ∧ ∃ G2, CW w2 G2 g mw { s with R := useR s.R id } n q f D ∧ (∀ b, G2 b → G b ∨ w.heap.size ≤ b) ∧ Chg G w w2
theorem cwAskKnown (w : World) (G : Nat → Prop) (g mw n q : Nat) (s : CaS) (f : ByteArray → Option Nat) (D : ByteArray → ByteArray → Bool) (id who : ByteArray) (x y : Int) (h : CW w G g mw s n q f D) (hv : vid id = true) (hv2 : vid who = true) (hr : s.res id = some (x, y)) (hR : s.R.length ≤ 1000000) :
    Calls Try.prog 7 #[.pointer (some ⟨g, 0, none⟩), .string id, .string who] w (KnownW w G g mw n q s f D id x y) := by
  obtain ⟨⟨F, FS, h1, h2, h3, h4⟩, h5⟩ := h
  refine (askKnown_any w F g mw s id who x y h1 hv hv2 hr hR).mono ?_
  rintro e w2 ⟨rfl, F2, hCa, hF2, hc⟩
  refine ⟨rfl, fun b => F2 b ∨ FS b, ⟨⟨F2, FS, hCa, h2.chg hc (fun b hb e => h3 b e hb), fun b hb e => (hF2 b hb).elim (fun h => h3 b h e) (fun h => by have := h2.lt b e; omega), fun b hb => hb⟩, fun b hb => ?_⟩, fun b hb => ?_, hc.mono (fun b e => h4 b (.inl e))⟩
  · rcases hb with hb | hb
    · exact hCa.lt b hb
    · have := h2.lt b hb; have := hc.size; omega
  · rcases hb with hb | hb
    · exact (hF2 b hb).imp (fun h => h4 b (.inl h)) (fun h => h)
    · exact .inl (h4 b (.inr hb))
/-- Put of a new name. -/
def PutW (w : World) (G : Nat → Prop) (g mw n q : Nat) (f : ByteArray → Option Nat) (D : ByteArray → ByteArray → Bool) (id : ByteArray) (s2 : CaS) (e : Ending) (w2 : World) : Prop :=
  ∃ A L c G2, e = .returned (.slice A L.length c) ∧ RisesS L ∧ (∀ x, x ∈ L ↔ D id x = true) ∧ L.length ≤ q ∧ OwnR rkI w2 w.heap.size (.slice A L.length c) L.length (sv L) ∧
    CW w2 G2 g mw s2 (if (f id).isSome then n - 1 else n) q (fun a => if a = id then none else f a) (fun a y => !decide (a = id) && D a y) ∧ (∀ b, G2 b → G b ∨ w.heap.size ≤ b) ∧ Chg G w w2
theorem put_w {w w2 : World} {G F FS : Nat → Prop} {g mw n q : Nat} {f : ByteArray → Option Nat} {D : ByteArray → ByteArray → Bool} {id : ByteArray} {s s2 : CaS} {e : Ending} (h1 : Ca w F g mw s) (h2 : Sets idKey idKey w FS mw n f D q) (h3 : ∀ b, F b → ¬ FS b) (h4 : ∀ b, F b ∨ FS b → G b) (h5 : ∀ b, G b → b < w.heap.size)
    (h : PutPost w F FS g mw n q f D id s2 e w2) : PutW w G g mw n q f D id s2 e w2 := by
  obtain ⟨⟨A, L, c, rfl, hr, hm, hl, ho, hS⟩, F2, hCa, hF2, hc⟩ := h
  refine ⟨A, L, c, fun b => F2 b ∨ FS b, rfl, hr, hm, hl, ho, ⟨⟨F2, FS, hCa, hS, fun b hb e => (hF2 b hb).elim (fun h => h3 b h e) (fun h => by have := h2.lt b e; omega), fun b hb => hb⟩, fun b hb => ?_⟩, fun b hb => ?_, hc.mono (fun b e => h4 b e)⟩
  · rcases hb with hb | hb
    · exact hCa.lt b hb
    · exact hS.lt b hb
  · rcases hb with hb | hb
    · exact (hF2 b hb).imp (fun h => h4 b (.inl h)) (fun h => h)
    · exact .inl (h4 b (.inr hb))
theorem cwPutRoom (w : World) (G : Nat → Prop) (g mw n q : Nat) (s : CaS) (f : ByteArray → Option Nat) (D : ByteArray → ByteArray → Bool) (id : ByteArray) (x y : Int) (hroom : ((s.nr + 1 : Nat) : Int) ≤ s.size) (h : CW w G g mw s n q f D) (hv : vid id = true) (hr : s.res id = none) (hR : s.R.length ≤ 1000000) (hnr : s.nr ≤ 1000000) (hq : q ≤ 1000000) :
    Calls Try.prog 8 #[.pointer (some ⟨g, 0, none⟩), .string id, .agg #[.int .i64 x, .int .i64 y]] w (PutW w G g mw n q f D id { s with R := useR s.R id, res := setRes s.res id (x, y), nr := s.nr + 1 }) := by
  obtain ⟨⟨F, FS, h1, h2, h3, h4⟩, h5⟩ := h
  exact (putRoom_any w F FS g mw n q s f D id x y hroom h1 h2 h3 hv hr hR hnr hq).mono fun e w2 h => put_w h1 h2 h3 h4 h5 h
theorem cwPutFull (w : World) (G : Nat → Prop) (g mw n q : Nat) (s : CaS) (f : ByteArray → Option Nat) (D : ByteArray → ByteArray → Bool) (id : ByteArray) (x y : Int) (x0 : ByteArray) (R2 : List ByteArray) (hR2 : useR s.R id = x0 :: R2) (hx0 : x0.size ≤ maxLen) (hfull : s.size < (s.nr + 1 : Nat)) (h : CW w G g mw s n q f D) (hv : vid id = true) (hr : s.res id = none) (hR : s.R.length ≤ 1000000) (hnr : s.nr ≤ 1000000) (hq : q ≤ 1000000) :
    Calls Try.prog 8 #[.pointer (some ⟨g, 0, none⟩), .string id, .agg #[.int .i64 x, .int .i64 y]] w (PutW w G g mw n q f D id { s with R := R2, res := outRes (setRes s.res id (x, y)) x0, nr := cntD (setRes s.res id (x, y) x0).isSome (s.nr + 1) }) := by
  obtain ⟨⟨F, FS, h1, h2, h3, h4⟩, h5⟩ := h
  exact (putFull_any w F FS g mw n q s f D id x y x0 R2 hR2 hx0 hfull h1 h2 h3 hv hr hR hnr hq).mono fun e w2 h => put_w h1 h2 h3 h4 h5 h
theorem cwKnown (w : World) (G : Nat → Prop) (g mw n q : Nat) (s : CaS) (f : ByteArray → Option Nat) (D : ByteArray → ByteArray → Bool) (h : CW w G g mw s n q f D) (hR : s.R.length ≤ 1000000) :
    Calls Try.prog 10 #[.pointer (some ⟨g, 0, none⟩)] w fun e w2 => ∃ A m c, e = .returned (.slice A m c) ∧ m = (risenS s.R).length ∧ OwnR rkI w2 w.heap.size (.slice A m c) m (sv (risenS s.R)) ∧ Chg Non w w2 := by
  obtain ⟨⟨F, FS, h1, h2, h3, h4⟩, h5⟩ := h
  exact cacheKnown_any w F g mw s h1 hR
theorem cwWanted (w : World) (G : Nat → Prop) (g mw n q : Nat) (s : CaS) (f : ByteArray → Option Nat) (D : ByteArray → ByteArray → Bool) (h : CW w G g mw s n q f D) (hn : n ≤ 1000000) :
    Calls Try.prog 12 #[.pointer (some ⟨g, 0, none⟩)] w fun e w2 => ∃ A c, e = .returned (.slice A n c) ∧ Chg Non w w2 := by
  obtain ⟨⟨F, FS, h1, h2, h3, h4⟩, h5⟩ := h
  exact cacheWanted_any w F FS g mw n q s f D h1 h2 hn
/-- Forget, where one task at most is waited for. -/
def ForgetW (w : World) (G : Nat → Prop) (g mw q : Nat) (s : CaS) (D : ByteArray → ByteArray → Bool) (id : ByteArray) (ws : List ByteArray) (e : Ending) (w2 : World) : Prop :=
  e = .returned (.int .i64 ((ws.countP (D id) : Nat) : Int)) ∧ ∃ n2 f2, CW w2 G g mw s n2 q f2 (fun a y => D a y && !inB ws y) ∧ Chg G w w2
theorem cwForget (w : World) (G : Nat → Prop) (g mw n q : Nat) (s : CaS) (f : ByteArray → Option Nat) (D : ByteArray → ByteArray → Bool) (id : ByteArray) (A : Option Addr) (m c : Nat) (who : List ByteArray) (h : CW w G g mw s n q f D) (hid : id.size ≤ maxLen) (hone : ∀ a, a ≠ id → f a = none) (hr : Rds w 1 A m (sv who)) (hm : m ≤ 1000000) (hq : q ≤ 1000000) (hsm : ∀ x ∈ who, x.size ≤ maxLen) :
    Calls Try.prog 14 #[.pointer (some ⟨g, 0, none⟩), .slice A m c] w (ForgetW w G g mw q s D id (risenS who)) := by
  obtain ⟨⟨F, FS, h1, h2, h3, h4⟩, h5⟩ := h
  refine (forget_any w F FS g mw n q s f D id A m c who h1 h2 h3 hid hone hr hm hq hsm).mono ?_
  rintro e w2 ⟨rfl, n2, f2, hS, _, hc⟩
  exact ⟨rfl, n2, f2, ⟨⟨F, FS, h1.chg hc (fun b hb e => h3 b hb e), hS, h3, h4⟩, fun b hb => Nat.lt_of_lt_of_le (h5 b hb) hc.size⟩, hc.mono (fun b e => h4 b (.inr e))⟩

def nA : ByteArray := ⟨#[1]⟩
def nB : ByteArray := ⟨#[2]⟩
def nC : ByteArray := ⟨#[3]⟩
set_option maxRecDepth 100000 in
set_option maxHeartbeats 2000000 in
theorem cache_alive (w : World) : Calls Try.prog 5 #[] w fun e w2 => e = .returned (.bool true) ∧ Chg Non w w2 := by
  go_enter Try.func5, Try.ntmps5
  go_wp2_with fail
  refine (cwNew 5 (by omega) w).mono ?_
  rintro e w1 ⟨g, mw, G, rfl, hW, hG, hC⟩
  have hgl := hW.gl
  go_wp2_with fail
  refine (cwAskNew w1 G g mw 0 0 _ _ _ nA nC hW (by decide) (by decide) rfl (by omega) (by omega)).mono ?_
  rintro e w2 ⟨G2, n2, f2, rfl, hW2, hn2, hf2, hs2, hG2, hC2⟩
  have hC2 : Chg Non w w2 := hC.trans2 hC2 (fun b e => .inr (hG b e))
  have hG2 : ∀ b, G2 b → w.heap.size ≤ b := fun b hb => (hG2 b hb).elim (hG b) (fun h => by have := hC.size; omega)
  obtain rfl : n2 = 1 := hn2
  have Hs2 := Lib.hid hs2
  clear hW hG hC hs2 hf2 hgl
  simp only [Option.isNone_none]
  go_wp2_with fail
  obtain ⟨w3, hw3⟩ : ∃ w3, w2.alloc (.cells #[.int .i64 0, .int .i64 0] 31) = w3 := ⟨_, rfl⟩
  have hc3 : Chg Non w2 w3 := hw3 ▸ (Chg.refl _ _).alloc _
  rw [hw3]
  have hW3 := hW2.non hc3
  have hC3 := hC2.non hc3
  clear hw3 hc3 hW2 hC2
  refine (cwAskNew w3 G2 g mw 1 1 _ f2 _ nA nB hW3 (by decide) (by decide) rfl (by omega) (by omega)).mono ?_
  rintro e w4 ⟨G4, n4, f4, rfl, hW4, _, _, _, hG4, hC4⟩
  have hC4 : Chg Non w w4 := hC3.trans2 hC4 (fun b e => .inr (hG2 b e))
  have hG4 : ∀ b, G4 b → w.heap.size ≤ b := fun b hb => (hG4 b hb).elim (hG2 b) (fun h => by have := hC3.size; omega)
  have hi : (f2 nA).isNone = false := by
    have h9 := Hs2.out
    cases h8 : f2 nA with
    | none => rw [h8] at h9; cases h9
    | some b => rfl
  rw [hi]
  clear hW3 hG2 hC3 hi
  go_wp2_with fail
  obtain ⟨w5, hw5⟩ : ∃ w5, w4.alloc (.cells #[.int .i64 0, .int .i64 0] 31) = w5 := ⟨_, rfl⟩
  have hc5 : Chg Non w4 w5 := hw5 ▸ (Chg.refl _ _).alloc _
  rw [hw5]
  have hW5 := hW4.non hc5
  have hC5 := hC4.non hc5
  clear hw5 hc5 hW4 hC4
  refine (cwPutRoom w5 G4 g mw n4 2 _ f4 _ nA 0 1 (by decide) hW5 (by decide) rfl (by decide) (by decide) (by omega)).mono ?_
  rintro e w6 ⟨A6, L6, c6, G6, rfl, hr6, hm6, _, hO6, _, _, hC6⟩
  have hC6 : Chg Non w w6 := hC5.trans2 hC6 (fun b e => .inr (hG4 b e))
  have hL6 : L6 = [nB, nC] := by
    refine rises_eqS hr6 (by decide) fun z => ?_
    rw [hm6]
    simp only [List.mem_cons, List.not_mem_nil, or_false, Bool.or_eq_true, Bool.and_eq_true, decide_eq_true_eq, true_and, Bool.false_eq_true, false_or]
    exact Or.comm
  subst hL6
  have hrd := (Rds.of_own hO6).non ((Chg.refl Non w6).alloc (.cells #[.string nB, .string nC] 27))
  have hcl := (hO6.open_)
  have hsm := sameIDs_same (w6.alloc (.cells #[.string nB, .string nC] 27)) A6 2 c6 (some ⟨w6.heap.size, 0, none⟩) 2 [nB, nC] hrd (Rds.block (Blk.new w6 27 #[.string nB, .string nC]) rfl) (by omega)
  clear hr6 hm6 hO6 hC5 hG4 hW5 hrd hcl
  go_wp2_with fail
  refine hsm.mono ?_
  rintro e w7 ⟨rfl, hc7⟩
  go_wp2_with fail
  go_ret
  exact ⟨rfl, (hC6.alloc _).non hc7⟩
end Go.Proofs.Ytogmnhneobdklaa
