/-
  The program's ledger and the document's, side by side.
-/
import Derived.Test.YtdcfnhggedeeiaaLedRefTell
import Derived.Test.YtdcfnhggedeeiaaRegionF
namespace Go.Proofs.Ytdcfnhggedeeiaa
open Go.RowKit
set_option linter.unusedVariables false
set_option linter.unusedSimpArgs false

/-- The program's ledger and the document's, in blocks of a law's own. -/
structure BL (w0 : World) (FL F G : Nat → Prop) (g mw r : Nat) (T T2 : List Cm) (D : ByteArray → Int → Bool) (W : List Wn) (n : Nat) (f : ByteArray → Option Nat) (q : Nat) (wr : World) : Prop where
  led : Led wr FL g mw T
  sets : Sets idKey inK wr F mw n f D q
  rl : Rl wr G r T2 W
  LF : ∀ b, FL b → ¬ F b
  LG : ∀ b, FL b → ¬ G b
  FG : ∀ b, F b → ¬ G b
  Lw : ∀ b, FL b → w0.heap.size ≤ b
  Fw : ∀ b, F b → w0.heap.size ≤ b
  Gw : ∀ b, G b → w0.heap.size ≤ b
  ok : WnOk W q
  nq : n ≤ q
  wq : W.length ≤ q
  chg : Chg Non w0 wr
section
variable {w0 wr w2 : World} {FL F G FL2 F2 G2 : Nat → Prop} {g mw r : Nat} {T T1 T2 T3 : List Cm} {D D2 : ByteArray → Int → Bool} {W W2 : List Wn} {n n2 q q2 : Nat} {f f2 : ByteArray → Option Nat}
theorem BL.put {S : Nat → Prop} (h : BL w0 FL F G g mw r T T2 D W n f q wr) (hc : Chg S wr w2) (hL : ∀ b, FL b → ¬ S b) (hF : ∀ b, F b → ¬ S b) (hG : ∀ b, G b → ¬ S b) (hS : ∀ b, S b → w0.heap.size ≤ b) : BL w0 FL F G g mw r T T2 D W n f q w2 :=
  ⟨h.led.chg hc hL, h.sets.chg hc hF, h.rl.chg hc hG, h.LF, h.LG, h.FG, h.Lw, h.Fw, h.Gw, h.ok, h.nq, h.wq, h.chg.trans2 hc fun b e => .inr (hS b e)⟩
theorem BL.non (h : BL w0 FL F G g mw r T T2 D W n f q wr) (hc : Chg Non wr w2) : BL w0 FL F G g mw r T T2 D W n f q w2 := h.put hc (fun _ _ => id) (fun _ _ => id) (fun _ _ => id) (fun _ e => e.elim)
/-- The program's commits turn. -/
theorem BL.prog (h : BL w0 FL F G g mw r T T2 D W n f q wr) (hL : Led w2 FL2 g mw T1) (hs : ∀ b, FL2 b → FL b ∨ wr.heap.size ≤ b) (hc : Chg FL wr w2) : BL w0 FL2 F G g mw r T1 T2 D W n f q w2 := by
  have hz := h.chg.size
  refine ⟨hL, h.sets.chg hc (fun b e e2 => h.LF b e2 e), h.rl.chg hc (fun b e e2 => h.LG b e2 e), fun b e e2 => ?_, fun b e e2 => ?_, h.FG, fun b e => (hs b e).elim (h.Lw b) (fun h => by omega), h.Fw, h.Gw, h.ok, h.nq, h.wq, h.chg.trans2 hc fun b e => .inr (h.Lw b e)⟩
  · exact (hs b e).elim (fun h1 => h.LF b h1 e2) (fun h1 => by have := h.sets.lt b e2; omega)
  · exact (hs b e).elim (fun h1 => h.LG b h1 e2) (fun h1 => by have := h.rl.lt b e2; omega)
/-- Who waits in the program turns. -/
theorem BL.wait (h : BL w0 FL F G g mw r T T2 D W n f q wr) (hS : Sets idKey inK w2 F2 mw n2 f2 D2 q2) (hs : ∀ b, F2 b → F b ∨ wr.heap.size ≤ b) (hc : Chg F wr w2) (hq : q ≤ q2) (hn : n2 ≤ q2) : BL w0 FL F2 G g mw r T T2 D2 W n2 f2 q2 w2 := by
  have hz := h.chg.size
  refine ⟨h.led.chg hc (fun b e e2 => h.LF b e e2), hS, h.rl.chg hc (fun b e e2 => h.FG b e2 e), fun b e e2 => ?_, h.LG, fun b e e2 => ?_, h.Lw, fun b e => (hs b e).elim (h.Fw b) (fun h => by omega), h.Gw, ⟨h.ok.nd, fun x hx => ⟨(h.ok.rise x hx).1, Nat.le_trans (h.ok.rise x hx).2 hq⟩⟩, hn, Nat.le_trans h.wq hq, h.chg.trans2 hc fun b e => .inr (h.Fw b e)⟩
  · exact (hs b e2).elim (fun h1 => h.LF b e h1) (fun h1 => by have := h.led.lt b e; omega)
  · exact (hs b e).elim (fun h1 => h.FG b h1 e2) (fun h1 => by have := h.rl.lt b e2; omega)
/-- The document's turns. -/
theorem BL.ref (h : BL w0 FL F G g mw r T T2 D W n f q wr) (hR : Rl w2 G2 r T3 W2) (hs : ∀ b, G2 b → G b ∨ wr.heap.size ≤ b) (hc : Chg G wr w2) (hok : WnOk W2 q) (hw : W2.length ≤ q) : BL w0 FL F G2 g mw r T T3 D W2 n f q w2 := by
  have hz := h.chg.size
  refine ⟨h.led.chg hc (fun b e e2 => h.LG b e e2), h.sets.chg hc (fun b e e2 => h.FG b e e2), hR, h.LF, fun b e e2 => ?_, fun b e e2 => ?_, h.Lw, h.Fw, fun b e => (hs b e).elim (h.Gw b) (fun h => by omega), hok, h.nq, hw, h.chg.trans2 hc fun b e => .inr (h.Gw b e)⟩
  · exact (hs b e2).elim (fun h1 => h.LG b e h1) (fun h1 => by have := h.led.lt b e; omega)
  · exact (hs b e2).elim (fun h1 => h.FG b e h1) (fun h1 => by have := h.sets.lt b e; omega)
end

/-- What Commit answers, and what it makes. -/
def comB (T : List Cm) (nm : ByteArray) : Bool := vid nm && (atI T nm).isNone
def comT (T : List Cm) (nm : ByteArray) (x y : Int) : List Cm := if comB T nm then T ++ [(nm, x, y)] else T
theorem comT_len (T : List Cm) (nm : ByteArray) (x y : Int) : (comT T nm x y).length ≤ T.length + 1 := by
  unfold comT
  split <;> simp
def PComPost (w : World) (FL : Nat → Prop) (g mw : Nat) (B : Bool) (T : List Cm) (e : Ending) (w2 : World) : Prop :=
  e = .returned (.bool B) ∧ ∃ FL2, Led w2 FL2 g mw T ∧ (∀ b, FL2 b → FL b ∨ w.heap.size ≤ b) ∧ Chg FL w w2
theorem comB_no {T : List Cm} {nm : ByteArray} (h : comB T nm = false) : vid nm = false ∨ ∃ k, atI T nm = some k := by
  unfold comB at h
  cases hv : vid nm with
  | false => exact .inl rfl
  | true =>
    rw [hv, Bool.true_and] at h
    cases ha : atI T nm with
    | none => rw [ha] at h; cases h
    | some k => exact .inr ⟨k, rfl⟩
theorem comB_yes {T : List Cm} {nm : ByteArray} (h : comB T nm = true) : vid nm = true ∧ atI T nm = none := by
  unfold comB at h
  rw [Bool.and_eq_true] at h
  exact ⟨h.1, by simpa using h.2⟩
theorem pCommit (w : World) (FL : Nat → Prop) (g mw : Nat) (T : List Cm) (nm : ByteArray) (x y : Int) (h : Led w FL g mw T) (hnm : nm.size ≤ 1000) (hT : T.length ≤ 100000) :
    Calls Try.prog 8 #[.pointer (some ⟨g, 0, none⟩), .string nm, .agg #[.int .i64 x, .int .i64 y]] w (PComPost w FL g mw (comB T nm) (comT T nm x y)) := by
  cases hb : comB T nm with
  | false =>
    have e : comT T nm x y = T := by unfold comT; rw [hb]; rfl
    rw [e]
    refine (ledCommit_no w FL g mw T nm x y h (by unfold maxLen; omega) (comB_no hb)).mono ?_
    rintro e w2 ⟨rfl, hc⟩
    exact ⟨rfl, FL, h.non hc, fun b h => .inl h, hc.of_non⟩
  | true =>
    have e : comT T nm x y = T ++ [(nm, x, y)] := by unfold comT; rw [hb]; rfl
    rw [e]
    exact ledCommit_yes w FL g mw T nm x y h (comB_yes hb).1 (comB_yes hb).2 (by omega)
theorem rCommit (w : World) (F : Nat → Prop) (g : Nat) (T : List Cm) (W : List Wn) (nm : ByteArray) (x y : Int) (h : Rl w F g T W) (hnm : nm.size ≤ 1000) (hT : T.length ≤ 100000) :
    Calls Try.prog 15 #[.pointer (some ⟨g, 0, none⟩), .string nm, .agg #[.int .i64 x, .int .i64 y]] w (RlPost w F g (.bool (comB T nm)) (comT T nm x y) W) := by
  cases hb : comB T nm with
  | false =>
    have e : comT T nm x y = T := by unfold comT; rw [hb]; rfl
    rw [e]
    exact rlCommit_no w F g T W nm x y h hnm hT (comB_no hb)
  | true =>
    have e : comT T nm x y = T ++ [(nm, x, y)] := by unfold comT; rw [hb]; rfl
    rw [e]
    exact rlCommit_yes w F g T W nm x y h hnm hT (comB_yes hb).1 (comB_yes hb).2

/-- What stands of a name. -/
def getT (T : List Cm) (nm : ByteArray) : Int × Int × Bool := match atI T nm with
  | some k => match T[k]? with | some c => (c.2.1, c.2.2, true) | none => (0, 0, false)
  | none => (0, 0, false)
theorem getT_none {T : List Cm} {nm : ByteArray} (h : atI T nm = none) : getT T nm = (0, 0, false) := by unfold getT; rw [h]
theorem getT_some {T : List Cm} {nm : ByteArray} {k : Nat} (h : atI T nm = some k) : ∃ x y, T[k]? = some (nm, x, y) ∧ getT T nm = (x, y, true) := by
  obtain ⟨h1, h2, _⟩ := atI_spec h
  obtain ⟨⟨s, x, y⟩, hx⟩ : ∃ c, T[k]? = some c := ⟨_, List.getElem?_eq_getElem h1⟩
  obtain rfl : s = nm := h2 _ hx
  exact ⟨x, y, hx, by unfold getT; rw [h]; simp only [hx]⟩
theorem pGet (w : World) (FL : Nat → Prop) (g mw : Nat) (T : List Cm) (nm : ByteArray) (h : Led w FL g mw T) (hnm : nm.size ≤ 1000) :
    Calls Try.prog 16 #[.pointer (some ⟨g, 0, none⟩), .string nm] w fun e w2 => e = .returned (.tuple #[.agg #[.int .i64 (getT T nm).1, .int .i64 (getT T nm).2.1], .bool (getT T nm).2.2]) ∧ Chg Non w w2 := by
  cases ha : atI T nm with
  | none =>
    rw [getT_none ha]
    exact ledGet_none w FL g mw T nm h (by unfold maxLen; omega) ha
  | some k =>
    obtain ⟨x, y, hx, e⟩ := getT_some ha
    rw [e]
    exact ledGet_some w FL g mw T nm x y k h (by unfold maxLen; omega) ha hx
theorem rGet (w : World) (F : Nat → Prop) (g : Nat) (T : List Cm) (W : List Wn) (nm : ByteArray) (h : Rl w F g T W) (hT : T.length ≤ 100000) :
    Calls Try.prog 17 #[.pointer (some ⟨g, 0, none⟩), .string nm] w fun e w2 => e = .returned (.tuple #[.agg #[.int .i64 (getT T nm).1, .int .i64 (getT T nm).2.1], .bool (getT T nm).2.2]) ∧ Chg Non w w2 := by
  cases ha : atI T nm with
  | none =>
    rw [getT_none ha]
    exact rlGet_none w F g T W nm h ha hT
  | some k =>
    obtain ⟨x, y, hx, e⟩ := getT_some ha
    rw [e]
    exact rlGet_some w F g T W nm x y k h ha hx hT
theorem trLen_any (w : World) (FL : Nat → Prop) (g mw : Nat) (T : List Cm) (h : Led w FL g mw T) :
    Calls Try.prog 21 #[.pointer (some ⟨g, 0, none⟩)] w fun e w2 => e = .returned (.int .i64 ((T.length : Nat) : Int)) ∧ w = w2 := by
  obtain ⟨⟨A, c, m1, hb, _⟩, _⟩ := h
  have c0 := hb.cell 0
  simp only [List.getElem?_toArray, List.getElem?_cons_zero, List.getElem?_cons_succ] at c0
  have hg := hb.lt
  clear hb
  go_enter Try.func21, Try.ntmps21
  go_wp2_with fail
  go_ret
  exact ⟨rfl, rfl⟩
end Go.Proofs.Ytdcfnhggedeeiaa
