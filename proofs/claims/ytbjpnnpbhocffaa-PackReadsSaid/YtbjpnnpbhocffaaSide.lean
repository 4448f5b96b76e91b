/-
  A cursor of the package and one of the document, side by side.
-/
import Derived.Test.YtbjpnnpbhocffaaReader
import Derived.Test.YtbjpnnpbhocffaaRefBytes
namespace Go.Proofs.Ytbjpnnpbhocffaa
open Go.RowKit
set_option linter.unusedVariables false

/-- Bytes stay when a block that holds no byte changes. -/
theorem Rds.side {w w2 : World} {A : Option Addr} {n : Nat} {L : List UInt8} (hr : Rds w 1 A n (bv L)) {g : Nat} {t : TypeId} {cs : Array Value} (hb : Blk w g t cs)
    (hno : ∀ (i : Nat) (q : Nat), cs[i]? ≠ some (.int .u8 q)) (hc : Chg (fun b => b = g) w w2) : Rds w2 1 A n (bv L) := by
  refine ⟨hr.1, fun h0 => ?_⟩
  obtain ⟨ad, e, hx⟩ := hr.2 h0
  refine ⟨ad, e, fun j u hu => hc.cell (hx j u hu) fun hs => ?_⟩
  have h := hx j u hu
  rw [bv_get] at hu
  cases hl : L[j]? with
  | none => simp [hl] at hu
  | some b =>
    simp [hl] at hu
    subst hu
    generalize ad.add j = p at hs h
    unfold Blk at hb
    unfold World.cell? at h
    rw [hs, hb] at h
    simp only at h
    split at h
    · cases h
    · exact hno _ _ h

theorem Cur.lie {w : World} {g : Nat} {R : List UInt8} {bad : Bool} (h : Cur w g R bad) : ∃ cs, Blk w g 33 cs ∧ ∀ (i : Nat) (q : Nat), cs[i]? ≠ some (.int .u8 q) := by
  obtain ⟨A, n, c, hb, _⟩ := h
  refine ⟨_, hb, fun i q => ?_⟩
  rcases i with _ | _ | i <;> simp
theorem RCur.lie {w : World} {g : Nat} {R : List UInt8} {bad : Bool} (h : RCur w g R bad) : ∃ cs, Blk w g 41 cs ∧ ∀ (i : Nat) (q : Nat), cs[i]? ≠ some (.int .u8 q) := by
  obtain ⟨A, n, c, B, t, hb, _⟩ := h
  refine ⟨_, hb, fun i q => ?_⟩
  rcases i with _ | _ | _ | i <;> simp
theorem Cur.apart {w : World} {g g2 : Nat} {R R2 : List UInt8} {bad bad2 : Bool} (h : Cur w g R bad) (h2 : RCur w g2 R2 bad2) : g ≠ g2 := by
  obtain ⟨c1, b1, _⟩ := h.lie
  obtain ⟨c2, b2, _⟩ := h2.lie
  exact b1.apart b2 (by decide)

theorem Cur.side {w w2 : World} {g g2 : Nat} {R R2 : List UInt8} {bad bad2 : Bool} (h : Cur w g R bad) (h2 : RCur w g2 R2 bad2) (hc : Chg (fun b => b = g2) w w2) : Cur w2 g R bad := by
  have hne := h.apart h2
  obtain ⟨cs, hb2, hno⟩ := h2.lie
  obtain ⟨A, n, c, hb, hr, h1, h2, h3⟩ := h
  exact ⟨A, n, c, hb.chg hc hne, hr.side hb2 hno hc, h1, h2, h3⟩
theorem RCur.side {w w2 : World} {g g2 : Nat} {R R2 : List UInt8} {bad bad2 : Bool} (h : RCur w g2 R2 bad2) (h2 : Cur w g R bad) (hc : Chg (fun b => b = g) w w2) : RCur w2 g2 R2 bad2 := by
  have hne := h2.apart h
  obtain ⟨cs, hb2, hno⟩ := h2.lie
  obtain ⟨A, n, c, B, t, hb, hr, h1, h2, h3, h4, h5⟩ := h
  exact ⟨A, n, c, B, t, hb.chg hc (fun e => hne e.symm), hr.side hb2 hno hc, h1, h2, h3, h4, h5⟩

theorem Cur.drewN {w : World} {g : Nat} {R : List UInt8} {bad : Bool} (h : Cur w g R bad) (k : Nat) : Cur (w.drewN k) g R bad := h.non ((Chg.refl _ _).drewN k)
theorem RCur.drewN {w : World} {g : Nat} {R : List UInt8} {bad : Bool} (h : RCur w g R bad) (k : Nat) : RCur (w.drewN k) g R bad := h.non ((Chg.refl _ _).drewN k)

theorem end_at (g : Nat) (R : List UInt8) (bad e1 : Bool) (he : Hid ((!bad && R.isEmpty) = e1)) (w : World) (hc : Cur w g R bad) :
    Calls Try.prog 17 #[.pointer (some ⟨g, 0, none⟩)] w fun e w2 => e = .returned (.bool e1) ∧ w = w2 := he.out ▸ end_any g R bad w hc
theorem left_at (g : Nat) (R : List UInt8) (bad : Bool) (z : Nat) (he : Hid (R.length = z)) (w : World) (hc : Cur w g R bad) :
    Calls Try.prog 15 #[.pointer (some ⟨g, 0, none⟩)] w fun e w2 => e = .returned (.int .i64 z) ∧ w = w2 := he.out ▸ left_any g R bad w hc
theorem refLeft_at (g : Nat) (R : List UInt8) (bad : Bool) (z : Nat) (he : Hid (R.length = z)) (w : World) (hc : RCur w g R bad) :
    Calls Try.prog 21 #[.pointer (some ⟨g, 0, none⟩)] w fun e w2 => e = .returned (.int .i64 z) ∧ ∃ k, w2 = w.drewN k := he.out ▸ refLeft_any g R bad w hc
end Go.Proofs.Ytbjpnnpbhocffaa
