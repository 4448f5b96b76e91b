/-
  The program's table and the document's, side by side.
-/
import Derived.Test.YtfglikgifkpfpaaTabRefWake
import Derived.Test.YtfglikgifkpfpaaTableNames
namespace Go.Proofs.Ytfglikgifkpfpaa
open Go.RowKit
set_option linter.unusedVariables false
set_option linter.unusedSimpArgs false

/-- What a call of the program's table leaves. -/
def TbPost (w : World) (F : Nat → Prop) (g : Nat) (v : Value) (t : TrS) (e : Ending) (w2 : World) : Prop :=
  e = .returned v ∧ ∃ F2, Tb w2 F2 g t.tb ∧ (∀ b, F2 b → F b ∨ w.heap.size ≤ b) ∧ Chg F w w2
theorem TbPost.stay {w w2 : World} {F : Nat → Prop} {g : Nat} {v : Value} {t : TrS} (h : Tb w2 F g t.tb) (hc : Chg Non w w2) : TbPost w F g v t (.returned v) w2 := ⟨rfl, F, h, fun b h => .inl h, hc.of_non⟩

theorem tb_len (t : TrS) : t.tb.R.length + t.tb.ng + t.tb.np = t.len := rfl
theorem pLen (w : World) (F : Nat → Prop) (g : Nat) (t : TrS) (h : Tb w F g t.tb) (hs : t.len ≤ 1000000) :
    Calls Try.prog 17 #[.pointer (some ⟨g, 0, none⟩)] w fun e w2 => e = .returned (.int .i64 ((t.len : Nat) : Int)) ∧ ∃ k, w2 = w.drewN k := tbLen_any w F g t.tb h (by rw [tb_len]; omega)
theorem pAdd (w : World) (F : Nat → Prop) (g : Nat) (t : TrS) (a : ByteArray) (h : Tb w F g t.tb) (ha : a.size ≤ 1000) (hs : t.len ≤ 100000) :
    Calls Try.prog 9 #[.pointer (some ⟨g, 0, none⟩), .string a] w (TbPost w F g (.int .i64 (t.addE a)) (if t.addE a = 0 then t.add a else t)) := by
  have hmx : t.tb.mx = t.top := rfl
  by_cases hv : vid a = true ∧ t.has a = false
  · obtain ⟨hv, hn⟩ := hv
    have hn2 : t.tb.has a = false := by rw [TrS.tb_has]; exact hn
    by_cases hf : t.top ≤ (t.len : Int)
    · have he : t.addE a = 31 := by unfold TrS.addE; rw [if_pos ⟨hv, hn⟩, if_pos hf]
      rw [he, if_neg (by decide)]
      refine (tbAdd_full w F g t.tb a h hv hn2 (by rw [tb_len, hmx]; exact hf) (by rw [tb_len]; omega)).mono ?_
      rintro e w2 ⟨rfl, hc⟩
      exact TbPost.stay (h.non hc) hc
    · have he : t.addE a = 0 := by unfold TrS.addE; rw [if_pos ⟨hv, hn⟩, if_neg hf]
      rw [he, if_pos rfl]
      exact tbAdd_yes w F g t.tb a h hv hn2 (by rw [tb_len, hmx]; omega) (by rw [tb_len]; omega)
  · have he : t.addE a = 1 := by unfold TrS.addE; rw [if_neg hv]
    rw [he, if_neg (by decide)]
    refine (tbAdd_no w F g t.tb a h (by unfold maxLen; omega) ?_).mono ?_
    · rw [TrS.tb_has]
      cases h1 : vid a with
      | false => exact .inl rfl
      | true =>
        cases h2 : t.has a with
        | true => exact .inr rfl
        | false => exact absurd ⟨h1, h2⟩ hv
    · rintro e w2 ⟨rfl, rfl⟩
      exact TbPost.stay h (Chg.refl _ _)
theorem TrS.ok.addE {t : TrS} (h : t.ok) (a : ByteArray) (ha : a.size ≤ 100) : (if t.addE a = 0 then t.add a else t).ok := by
  by_cases he : t.addE a = 0
  · rw [if_pos he]
    refine h.add ?_ ha
    unfold TrS.addE at he
    by_cases hv : vid a = true ∧ t.has a = false
    · exact hv.2
    · rw [if_neg hv] at he; cases he
  · rw [if_neg he]; exact h
theorem TrS.addE_len (t : TrS) (a : ByteArray) : (if t.addE a = 0 then t.add a else t).len ≤ t.len + 1 := by
  by_cases he : t.addE a = 0
  · rw [if_pos he]
    show (t.R ++ [a]).length + _ + _ ≤ t.R.length + t.G.length + t.P.length + 1
    rw [List.length_append, List.length_singleton]
    show t.R.length + 1 + t.G.length + t.P.length ≤ _
    omega
  · rw [if_neg he]; omega
theorem pEnd (w : World) (F : Nat → Prop) (g : Nat) (t : TrS) (a : ByteArray) (h : Tb w F g t.tb) (ok : t.ok) (ha : a.size ≤ 1000) :
    Calls Try.prog 16 #[.pointer (some ⟨g, 0, none⟩), .string a] w (TbPost w F g (.bool (hasB t.G a)) (t.ends a)) := by
  refine (tbEnd_any w F g t.tb a h (by unfold maxLen; omega)).mono ?_
  rintro e w2 ⟨rfl, hT, hc⟩
  rw [← TrS.ends_tb ok] at hT
  exact ⟨rfl, F, hT, fun b h => .inl h, hc⟩
theorem pBack (w : World) (F : Nat → Prop) (g : Nat) (t : TrS) (a : ByteArray) (h : Tb w F g t.tb) (ok : t.ok) (ha : a.size ≤ 1000) (hs : t.len ≤ 100000) :
    Calls Try.prog 24 #[.pointer (some ⟨g, 0, none⟩), .string a] w (TbPost w F g (.bool (hasB t.G a)) (if hasB t.G a = true then t.back a else t)) := by
  have hl : t.len = t.R.length + t.G.length + t.P.length := rfl
  refine (tbBack_any w F g t.tb a h (by unfold maxLen; omega) (by show t.R.length ≤ _; omega)).mono ?_
  rintro e w2 ⟨rfl, F2, hT, hF, hc⟩
  refine ⟨rfl, F2, ?_, hF, hc⟩
  have e : t.tb.G a = hasB t.G a := rfl
  rw [e] at hT
  cases hb : hasB t.G a with
  | true => rw [hb, if_pos rfl] at hT; rw [if_pos rfl, TrS.back_tb ok]; exact hT
  | false => rw [hb, if_neg Bool.false_ne_true] at hT; rw [if_neg Bool.false_ne_true]; exact hT
theorem pPark (w : World) (F : Nat → Prop) (g : Nat) (t : TrS) (a o : ByteArray) (h : Tb w F g t.tb) (ok : t.ok) (ha : a.size ≤ 1000) (hs : t.len ≤ 100000) :
    Calls Try.prog 15 #[.pointer (some ⟨g, 0, none⟩), .string a, .string o] w (TbPost w F g (.bool (vid o && hasB t.G a)) (if (vid o && hasB t.G a) = true then t.parks a o else t)) := by
  have hl : t.len = t.R.length + t.G.length + t.P.length := rfl
  refine (tbPark_any w F g t.tb a o h (by unfold maxLen; omega) (by show t.P.length ≤ _; omega)).mono ?_
  rintro e w2 ⟨rfl, hT, hc⟩
  refine ⟨rfl, F, ?_, fun b h => .inl h, hc⟩
  have e : t.tb.G a = hasB t.G a := rfl
  rw [e] at hT
  cases hb : (vid o && hasB t.G a) with
  | true =>
    rw [hb, if_pos rfl] at hT
    rw [if_pos rfl, TrS.parks_tb ok (by rw [Bool.and_eq_true] at hb; exact hb.2)]
    exact hT
  | false => rw [hb, if_neg Bool.false_ne_true] at hT; rw [if_neg Bool.false_ne_true]; exact hT
theorem TrS.ok.backs {t : TrS} (h : t.ok) (a : ByteArray) : (if hasB t.G a = true then t.back a else t).ok := by
  by_cases hb : hasB t.G a = true
  · rw [if_pos hb]; exact h.back hb
  · rw [if_neg hb]; exact h
theorem TrS.ok.parkss {t : TrS} (h : t.ok) (a o : ByteArray) : (if (vid o && hasB t.G a) = true then t.parks a o else t).ok := by
  by_cases hb : (vid o && hasB t.G a) = true
  · rw [if_pos hb]; exact h.parks (by rw [Bool.and_eq_true] at hb; exact hb.2)
  · rw [if_neg hb]; exact h
theorem rem_lt {L : List ByteArray} {a : ByteArray} (h : hasB L a = true) : (remS L a).length + 1 ≤ L.length := by
  have hm := hasB_true.1 h
  unfold remS
  have := List.length_filter_lt_length_iff_exists (l := L) (p := fun y => !decide (y = a))
  have h2 := this.2 ⟨a, hm, by simp⟩
  omega
theorem TrS.ends_len (t : TrS) (a : ByteArray) : (t.ends a).len ≤ t.len := by
  have := rem_le t.G a
  show t.R.length + (remS t.G a).length + t.P.length ≤ t.R.length + t.G.length + t.P.length
  omega
theorem TrS.backs_len (t : TrS) (a : ByteArray) : (if hasB t.G a = true then t.back a else t).len ≤ t.len := by
  by_cases hb : hasB t.G a = true
  · rw [if_pos hb]
    have := rem_lt hb
    show (t.R ++ [a]).length + (remS t.G a).length + t.P.length ≤ t.R.length + t.G.length + t.P.length
    rw [List.length_append, List.length_singleton]
    omega
  · rw [if_neg hb]; omega
theorem TrS.parkss_len (t : TrS) (a o : ByteArray) : (if (vid o && hasB t.G a) = true then t.parks a o else t).len ≤ t.len := by
  by_cases hb : (vid o && hasB t.G a) = true
  · rw [if_pos hb]
    have := rem_lt (L := t.G) (a := a) (by rw [Bool.and_eq_true] at hb; exact hb.2)
    show t.R.length + (remS t.G a).length + (t.P ++ [(a, o)]).length ≤ t.R.length + t.G.length + t.P.length
    rw [List.length_append, List.length_singleton]
    omega
  · rw [if_neg hb]; omega
theorem TrS.woken_len {t : TrS} (h : t.ok) (on : List ByteArray) : (t.woken on).len = t.len := by
  have := h.wakes_len on
  show (t.R ++ t.wakes on).length + t.G.length + (t.P.filter (fun p => !hasB on p.2)).length = t.R.length + t.G.length + t.P.length
  rw [List.length_append]
  omega

theorem rAdd (w : World) (F : Nat → Prop) (g : Nat) (t : TrS) (a : ByteArray) (h : Rt w F g t) (ha : a.size ≤ 1000) (hs : t.len ≤ 100000) :
    Calls Try.prog 22 #[.pointer (some ⟨g, 0, none⟩), .string a] w (RtPost w F g (.int .i64 (t.addE a)) (if t.addE a = 0 then t.add a else t)) := rtAdd_any w F g t a h ha hs
theorem rBack (w : World) (F : Nat → Prop) (g : Nat) (t : TrS) (a : ByteArray) (h : Rt w F g t) (hs : t.len ≤ 100000) :
    Calls Try.prog 25 #[.pointer (some ⟨g, 0, none⟩), .string a] w (RtPost w F g (.bool (hasB t.G a)) (if hasB t.G a = true then t.back a else t)) := rtBack_any w F g t a h hs
theorem rPark (w : World) (F : Nat → Prop) (g : Nat) (t : TrS) (a o : ByteArray) (h : Rt w F g t) (ho : o.size ≤ 1000) (hs : t.len ≤ 100000) :
    Calls Try.prog 26 #[.pointer (some ⟨g, 0, none⟩), .string a, .string o] w (RtPost w F g (.bool (vid o && hasB t.G a)) (if (vid o && hasB t.G a) = true then t.parks a o else t)) := rtPark_any w F g t a o h ho hs

/-- The program's table (of t) and the document's (of u), in blocks of a law's own. -/
structure BT (w0 : World) (F G : Nat → Prop) (g r : Nat) (t u : TrS) (wr : World) : Prop where
  tb : Tb wr F g t.tb
  rt : Rt wr G r u
  Fw : ∀ b, F b → w0.heap.size ≤ b
  Gw : ∀ b, G b → w0.heap.size ≤ b
  dis : ∀ b, F b → ¬ G b
  chg : Chg Non w0 wr
section
variable {w0 wr w2 : World} {F G F2 G2 : Nat → Prop} {g r : Nat} {t u t2 u2 : TrS}
theorem BT.put {S : Nat → Prop} (h : BT w0 F G g r t u wr) (hc : Chg S wr w2) (hF : ∀ b, F b → ¬ S b) (hG : ∀ b, G b → ¬ S b) (hS : ∀ b, S b → w0.heap.size ≤ b) : BT w0 F G g r t u w2 :=
  ⟨h.tb.chg hc hF, h.rt.chg hc hG, h.Fw, h.Gw, h.dis, h.chg.trans2 hc fun b e => .inr (hS b e)⟩
theorem BT.non (h : BT w0 F G g r t u wr) (hc : Chg Non wr w2) : BT w0 F G g r t u w2 := h.put hc (fun _ _ => id) (fun _ _ => id) (fun _ e => e.elim)
theorem BT.prog (h : BT w0 F G g r t u wr) (hT : Tb w2 F2 g t2.tb) (hF : ∀ b, F2 b → F b ∨ wr.heap.size ≤ b) (hc : Chg F wr w2) : BT w0 F2 G g r t2 u w2 := by
  have hs := h.chg.size
  refine ⟨hT, h.rt.chg hc (fun b e e2 => h.dis b e2 e), fun b e => (hF b e).elim (h.Fw b) (fun h => by omega), h.Gw, fun b e e2 => ?_, h.chg.trans2 hc fun b e => .inr (h.Fw b e)⟩
  rcases hF b e with h1 | h1
  · exact h.dis b h1 e2
  · have := h.rt.lt b e2
    omega
theorem BT.ref (h : BT w0 F G g r t u wr) (hT : Rt w2 G2 r u2) (hG : ∀ b, G2 b → G b ∨ wr.heap.size ≤ b) (hc : Chg G wr w2) : BT w0 F G2 g r t u2 w2 := by
  have hs := h.chg.size
  refine ⟨h.tb.chg hc (fun b e e2 => h.dis b e e2), hT, h.Fw, fun b e => (hG b e).elim (h.Gw b) (fun h => by omega), fun b e e2 => ?_, h.chg.trans2 hc fun b e => .inr (h.Gw b e)⟩
  rcases hG b e2 with h1 | h1
  · exact h.dis b e h1
  · have := h.tb.lt b e
    omega
end
end Go.Proofs.Ytfglikgifkpfpaa
