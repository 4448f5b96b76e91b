/-
  The program's ledger and the document's, side by side: Want, Tell.
-/
import Derived.Test.YtdcfnhggedeeiaaLedBoth
namespace Go.Proofs.Ytdcfnhggedeeiaa
open Go.RowKit
set_option linter.unusedVariables false
set_option linter.unusedSimpArgs false

/-- Who waits after a Want, after a Tell. -/
def wD (T : List Cm) (nm : ByteArray) (l : List Int) (D : ByteArray → Int → Bool) (a : ByteArray) (y : Int) : Bool := D a y || (comB T nm && (decide (a = nm) && inL l y))
def tD (T : List Cm) (nm : ByteArray) (D : ByteArray → Int → Bool) (a : ByteArray) (y : Int) : Bool := !((atI T nm).isSome && decide (a = nm)) && D a y
theorem comB_got {T : List Cm} {nm : ByteArray} {k : Nat} (h : atI T nm = some k) : comB T nm = false := by unfold comB; rw [h]; simp
theorem comB_bad {T : List Cm} {nm : ByteArray} (h : vid nm = false) : comB T nm = false := by unfold comB; rw [h]; rfl
def resV (x : Int × Int × Bool) : Value := .tuple #[.agg #[.int .i64 x.1, .int .i64 x.2.1], .bool x.2.2]
section
variable {w0 w : World} {FL F G : Nat → Prop} {g mw r : Nat} {T : List Cm} {W : List Wn} {n : Nat} {f : ByteArray → Option Nat} {q : Nat}
theorem BL.cong {T2 : List Cm} {D D2 : ByteArray → Int → Bool} (h : BL w0 FL F G g mw r T T2 D W n f q w) (hD : ∀ a x, D a x = D2 a x) : BL w0 FL F G g mw r T T2 D2 W n f q w := by
  obtain rfl : D = D2 := funext fun a => funext fun x => hD a x
  exact h
theorem BL.more {T2 : List Cm} {D : ByteArray → Int → Bool} {q2 : Nat} (h : BL w0 FL F G g mw r T T2 D W n f q w) (hq : q ≤ q2) : BL w0 FL F G g mw r T T2 D W n f q2 w :=
  ⟨h.led, h.sets.more hq, h.rl, h.LF, h.LG, h.FG, h.Lw, h.Fw, h.Gw, ⟨h.ok.nd, fun x hx => ⟨(h.ok.rise x hx).1, Nat.le_trans (h.ok.rise x hx).2 hq⟩⟩, Nat.le_trans h.nq hq, Nat.le_trans h.wq hq, h.chg⟩

def PwPost (w0 w : World) (FL F G : Nat → Prop) (g mw r : Nat) (T : List Cm) (D : ByteArray → Int → Bool) (W : List Wn) (q : Nat) (v : Value) (e : Ending) (w2 : World) : Prop :=
  e = .returned v ∧ ∃ F2 n2 f2, BL w0 FL F2 G g mw r T T D W n2 f2 q w2 ∧ (∀ b, F2 b → F b ∨ w.heap.size ≤ b) ∧ Chg F w w2
def RwPost (w0 w : World) (FL F G : Nat → Prop) (g mw r : Nat) (T : List Cm) (n : Nat) (f : ByteArray → Option Nat) (q : Nat) (v : Value) (e : Ending) (w2 : World) : Prop :=
  e = .returned v ∧ ∃ G2 W2, BL w0 FL F G2 g mw r T T (dW W2) W2 n f q w2 ∧ (∀ b, G2 b → G b ∨ w.heap.size ≤ b) ∧ Chg G w w2
theorem pWant (h : BL w0 FL F G g mw r T T (dW W) W n f q w) (nm : ByteArray) (A : Option Addr) (m c : Nat) (l : List Int) (hr : Rds w0 1 A m (iv l)) (hl : ∀ x ∈ l, i64 x) (hA : 0 < m → ∀ ad, A = some ad → ad.block < w0.heap.size) (hm : m ≤ 1000) (hnm : nm.size ≤ 1000) (hq : q ≤ 1000000) :
    Calls Try.prog 11 #[.pointer (some ⟨g, 0, none⟩), .string nm, .slice A m c] w (PwPost w0 w FL F G g mw r T (wD T nm l (dW W)) W (q + m + 1) (resV (getT T nm))) := by
  have hstay : ∀ w2, comB T nm = false → Chg Non w w2 → PwPost w0 w FL F G g mw r T (wD T nm l (dW W)) W (q + m + 1) (resV (getT T nm)) (.returned (resV (getT T nm))) w2 := fun w2 hb hc =>
    ⟨rfl, F, n, f, ((h.non hc).more (by omega)).cong (fun a x => by unfold wD; rw [hb]; simp), fun b h => .inl h, hc.of_non⟩
  cases ha : atI T nm with
  | some k =>
    obtain ⟨x, y, hx, e⟩ := getT_some ha
    refine (ledWant_got w FL g mw T nm x y k A m c h.led (by unfold maxLen; omega) ha hx).mono ?_
    rintro e2 w2 ⟨rfl, hc⟩
    have := hstay w2 (comB_got ha) hc
    rw [e] at this ⊢
    exact this
  | none =>
    have e := getT_none ha
    cases hv : vid nm with
    | false =>
      refine (ledWant_bad w FL g mw T nm A m c h.led (by unfold maxLen; omega) ha hv).mono ?_
      rintro e2 w2 ⟨rfl, hc⟩
      have := hstay w2 (comB_bad hv) hc
      rw [e] at this ⊢
      exact this
    | true =>
      refine (ledWant_yes w F FL g mw T n q f (dW W) nm A m c l h.led h.sets h.LF ha hv (hr.non h.chg) hl (fun h0 ad e hF => by have := h.Fw _ hF; have := hA h0 ad e; omega) hm (by omega) h.nq).mono ?_
      rintro e2 w2 ⟨rfl, F2, n2, f2, hS, hn2, hF2, hc⟩
      rw [e]
      refine ⟨rfl, F2, n2, f2, (h.wait (hS.more (q2 := q + m + 1) (by omega)) hF2 hc (by omega) (by omega)).cong fun a x => ?_, hF2, hc⟩
      unfold wD comB
      rw [ha, hv]
      rfl
theorem rWant {q0 : Nat} (nm : ByteArray) (A : Option Addr) (m c : Nat) (l : List Int) (h : BL w0 FL F G g mw r T T (wD T nm l (dW W)) W n f q w) (hok : WnOk W q0) (hwq : W.length ≤ q0) (hq0 : q0 + m + 1 ≤ q) (hr : Rds w0 1 A m (iv l)) (hA : 0 < m → ∀ ad, A = some ad → ad.block < w0.heap.size) (hm : m ≤ 1000) (hnm : nm.size ≤ 1000) (hq : q ≤ 100000) (hT : T.length ≤ 100000) :
    Calls Try.prog 19 #[.pointer (some ⟨r, 0, none⟩), .string nm, .slice A m c] w (RwPost w0 w FL F G g mw r T n f q (resV (getT T nm))) := by
  have hll : l.length = m := by have := hr.lenMap (f := Value.int .i64); omega
  have hstay : ∀ w2, comB T nm = false → Chg Non w w2 → RwPost w0 w FL F G g mw r T n f q (resV (getT T nm)) (.returned (resV (getT T nm))) w2 := fun w2 hb hc =>
    ⟨rfl, G, W, (h.non hc).cong (fun a x => by unfold wD; rw [hb]; simp), fun b h => .inl h, hc.of_non⟩
  cases ha : atI T nm with
  | some k =>
    obtain ⟨x, y, hx, e⟩ := getT_some ha
    refine (rlWant_got w G r T W nm x y k A m c h.rl hnm hT ha hx).mono ?_
    rintro e2 w2 ⟨rfl, hc⟩
    have := hstay w2 (comB_got ha) hc
    rw [e] at this ⊢
    exact this
  | none =>
    have e := getT_none ha
    cases hv : vid nm with
    | false =>
      refine (rlWant_bad w G r T W nm A m c h.rl hnm hT ha hv).mono ?_
      rintro e2 w2 ⟨rfl, hc⟩
      have := hstay w2 (comB_bad hv) hc
      rw [e] at this ⊢
      exact this
    | true =>
      refine (rlWant_yes w G r q0 T W nm A m c l h.rl hok hnm hT (by omega) (by omega) hv ha (hr.non h.chg) (fun h0 ad e hF => by have := h.Gw _ hF; have := hA h0 ad e; omega)).mono ?_
      rintro e2 w2 ⟨rfl, G2, W2, hR, hD, hok2, hwl, hG2, hc⟩
      rw [e]
      refine ⟨rfl, G2, W2, (h.ref hR hG2 hc ⟨hok2.nd, fun x hx => ⟨(hok2.rise x hx).1, Nat.le_trans (hok2.rise x hx).2 (by omega)⟩⟩ (by omega)).cong fun a x => ?_, hG2, hc⟩
      rw [hD]
      unfold wD comB
      rw [ha, hv]
      rfl

def PtPost (w0 w : World) (FL F G : Nat → Prop) (g mw r : Nat) (T : List Cm) (nm : ByteArray) (W : List Wn) (q : Nat) (e : Ending) (w2 : World) : Prop :=
  ∃ v L n2 f2, e = .returned v ∧ RisesI L ∧ (∀ x, x ∈ L ↔ ((atI T nm).isSome && dW W nm x) = true) ∧ L.length ≤ q ∧ OwnR rkN w2 w.heap.size v L.length (iv L) ∧ BL w0 FL F G g mw r T T (tD T nm (dW W)) W n2 f2 q w2 ∧ Chg F w w2
theorem pTell (h : BL w0 FL F G g mw r T T (dW W) W n f q w) (nm : ByteArray) (hnm : nm.size ≤ 1000) (hq : q ≤ 1000000) :
    Calls Try.prog 12 #[.pointer (some ⟨g, 0, none⟩), .string nm] w (PtPost w0 w FL F G g mw r T nm W q) := by
  cases ha : atI T nm with
  | none =>
    refine (ledTell_no w FL g mw T nm h.led (by unfold maxLen; omega) ha).mono ?_
    rintro e2 w2 ⟨rfl, rfl⟩
    refine ⟨_, [], n, f, rfl, by unfold RisesI; simp, fun x => by rw [ha]; simp, Nat.zero_le _, OwnR.nil _ _ _, h.cong (fun a x => by unfold tD; rw [ha]; simp), Chg.refl _ _⟩
  | some k =>
    refine (ledTell_yes w F FL g mw T n q f (dW W) nm k h.led h.sets h.LF (by unfold maxLen; omega) ha (by omega)).mono ?_
    rintro e2 w2 ⟨v, L, n2, f2, rfl, hr, hm, hl, ho, hS, hn, hc⟩
    have hnq := h.nq
    refine ⟨v, L, n2, f2, rfl, hr, fun x => by rw [hm, ha]; simp, hl, ho, (h.wait hS (fun b h => .inl h) hc (Nat.le_refl _) (by omega)).cong (fun a x => by unfold tD; rw [ha]; simp), hc⟩
def RtPost2 (w0 w : World) (FL F G : Nat → Prop) (g mw r : Nat) (T : List Cm) (nm : ByteArray) (W : List Wn) (n : Nat) (f : ByteArray → Option Nat) (q : Nat) (e : Ending) (w2 : World) : Prop :=
  ∃ v m L G2 W2, e = .returned v ∧ RisesI L ∧ (∀ x, x ∈ L ↔ ((atI T nm).isSome && dW W nm x) = true) ∧ OwnR rkN w2 0 v m (iv L) ∧ BL w0 FL F G2 g mw r T T (dW W2) W2 n f q w2 ∧ (∀ b, G2 b → G b ∨ w.heap.size ≤ b) ∧ Chg G w w2
theorem rTell (nm : ByteArray) (h : BL w0 FL F G g mw r T T (tD T nm (dW W)) W n f q w) (hq : q ≤ 100000) (hT : T.length ≤ 100000) :
    Calls Try.prog 20 #[.pointer (some ⟨r, 0, none⟩), .string nm] w (RtPost2 w0 w FL F G g mw r T nm W n f q) := by
  have hwq := h.wq
  cases ha : atI T nm with
  | none =>
    refine (rlTell_no w G r T W nm h.rl hT ha).mono ?_
    rintro e2 w2 ⟨rfl, hc⟩
    refine ⟨_, 0, [], G, W, rfl, by unfold RisesI; simp, fun x => by rw [ha]; simp, OwnR.nil _ _ _, (h.non hc).cong (fun a x => by unfold tD; rw [ha]; simp), fun b h => .inl h, hc.of_non⟩
  | some k =>
    obtain ⟨x, y, hx, e⟩ := getT_some ha
    refine (rlTell_yes w G r q T W nm x y k h.rl h.ok hT (by omega) ha hx).mono ?_
    rintro e2 w2 ⟨v, m, L, G2, W2, rfl, ho, hr, hm, hR, hD, hok, hwl, hG2, hc⟩
    refine ⟨v, m, L, G2, W2, rfl, hr, fun x => by rw [hm, ha]; simp, ho, (h.ref hR hG2 hc hok (by omega)).cong (fun a x => by rw [hD]; unfold tD; rw [ha]; simp), hG2, hc⟩
end
end Go.Proofs.Ytdcfnhggedeeiaa
