/-
  gleanerref14.Table: Add, Next, Steal, End, Back, Park.
-/
import Derived.Test.YtfglikgifkpfpaaTabRef
namespace Go.Proofs.Ytfglikgifkpfpaa
open Go.RowKit
set_option linter.unusedVariables false
set_option linter.unusedSimpArgs false

def TrS.addE (t : TrS) (a : ByteArray) : Int := if vid a = true ∧ t.has a = false then (if t.top ≤ (t.len : Int) then 31 else 0) else 1
/-- What a call leaves: the result, the table, its blocks. -/
def RtPost (w : World) (F : Nat → Prop) (g : Nat) (v : Value) (t : TrS) (e : Ending) (w2 : World) : Prop :=
  e = .returned v ∧ ∃ F2, Rt w2 F2 g t ∧ (∀ b, F2 b → F b ∨ w.heap.size ≤ b) ∧ Chg F w w2
theorem RtPost.stay {w w2 : World} {F : Nat → Prop} {g : Nat} {v : Value} {t : TrS} (h : Rt w2 F g t) (hc : Chg Non w w2) : RtPost w F g v t (.returned v) w2 := ⟨rfl, F, h, fun b h => .inl h, hc.of_non⟩

def RAddPost (w : World) (F : Nat → Prop) (g : Nat) (t : TrS) (nm : ByteArray) (e : Ending) (w2 : World) : Prop := RtPost w F g (.int .i64 (t.addE nm)) (if t.addE nm = 0 then t.add nm else t) e w2
set_option maxRecDepth 100000 in
set_option maxHeartbeats 2000000 in
theorem rtAdd_any (w : World) (F : Nat → Prop) (g : Nat) (t : TrS) (nm : ByteArray) (h : Rt w F g t) (hid : nm.size ≤ 1000) (hs : t.len ≤ 100000) :
    Calls Try.prog 22 #[.pointer (some ⟨g, 0, none⟩), .string nm] w (RAddPost w F g t nm) := by
  have hstay : ∀ w2 E, E = t.addE nm → E ≠ 0 → Chg Non w w2 → RAddPost w F g t nm (.returned (.int .i64 E)) w2 := fun w2 E e h0 hc => by
    subst e
    unfold RAddPost
    rw [if_neg h0]
    exact RtPost.stay (h.non hc) hc
  have Hstay := Lib.hid hstay
  have H := Lib.hid h
  have hid2 : nm.size ≤ 9223372036854775807 := by omega
  obtain ⟨A, n, c, A2, n2, c2, A3, n3, c3, h, hF⟩ := h
  have Hp := Lib.hid hF
  have c0c := h.hb.cell 0
  have c1c := h.hb.cell 1
  have c2c := h.hb.cell 2
  simp only [List.getElem?_toArray, List.getElem?_cons_zero, List.getElem?_cons_succ] at c0c c1c c2c
  have hlen : t.len = t.R.length + t.G.length + t.P.length := rfl
  have hnl : n ≤ 100000 := by have := h.hn.out; omega
  have hn2l : n2 ≤ 100000 := by have := h.hn2.out; omega
  have hnP : t.P.length ≤ 1000000 := by omega
  have hrR := h.hR.rds
  have hrG := h.hG.rds
  have h1 := refHas_any w A n c t.R nm hrR (by omega)
  have h2 := refHas_any w A2 n2 c2 t.G nm hrG (by omega)
  have HA := Lib.hid h
  have hgl := h.hb.lt
  have Hs := Lib.hid hs
  clear hstay h hF hlen hrR hrG hs
  cases hv : vid nm with
  | false =>
    have He := Lib.hid (show t.addE nm = 1 by unfold TrS.addE; rw [hv]; rfl)
    have Hv := Lib.hid hv
    clear hv
    go_enter Try.func22, Try.ntmps22
    go_wp2_with fail
    refine (refValid_any nm _ hid2).mono ?_
    rintro e w9 ⟨rfl, rfl⟩
    rw [Hv.out]
    go_wp2_with fail
    go_ret
    exact Hstay.out _ _ He.out.symm (by decide) (Chg.refl _ _)
  | true =>
  have Hv := Lib.hid hv
  clear hv
  cases hR : hasB t.R nm with
  | true =>
    have He := Lib.hid (show t.addE nm = 1 by unfold TrS.addE TrS.has; rw [hR]; simp)
    rw [hR] at h1
    clear hR
    go_enter Try.func22, Try.ntmps22
    go_wp2_with fail
    refine (refValid_any nm _ hid2).mono ?_
    rintro e w9 ⟨rfl, rfl⟩
    rw [Hv.out]
    go_wp2_with fail
    refine h1.mono ?_
    rintro e w9 ⟨rfl, rfl⟩
    go_wp2_with fail
    go_ret
    exact Hstay.out _ _ He.out.symm (by decide) (Chg.refl _ _)
  | false =>
  rw [hR] at h1
  cases hG : hasB t.G nm with
  | true =>
    have He := Lib.hid (show t.addE nm = 1 by unfold TrS.addE TrS.has; rw [hG]; simp)
    rw [hG] at h2
    clear hR hG
    go_enter Try.func22, Try.ntmps22
    go_wp2_with fail
    refine (refValid_any nm _ hid2).mono ?_
    rintro e w9 ⟨rfl, rfl⟩
    rw [Hv.out]
    go_wp2_with fail
    refine h1.mono ?_
    rintro e w9 ⟨rfl, rfl⟩
    go_wp2_with fail
    refine h2.mono ?_
    rintro e w9 ⟨rfl, rfl⟩
    go_wp2_with fail
    go_ret
    exact Hstay.out _ _ He.out.symm (by decide) (Chg.refl _ _)
  | false =>
  rw [hG] at h2
  have hhas : t.has nm = hasB (risenS t.names) nm := by unfold TrS.has; rw [hR, hG]; rfl
  clear hR hG
  cases hP : hasB (risenS t.names) nm with
  | true =>
    have He := Lib.hid (show t.addE nm = 1 by unfold TrS.addE; rw [hhas, hP]; simp)
    have HP := Lib.hid hP
    clear hP hhas
    go_enter Try.func22, Try.ntmps22
    go_wp2_with fail
    refine (refValid_any nm _ hid2).mono ?_
    rintro e w9 ⟨rfl, rfl⟩
    rw [Hv.out]
    go_wp2_with fail
    refine h1.mono ?_
    rintro e w9 ⟨rfl, rfl⟩
    go_wp2_with fail
    refine h2.mono ?_
    rintro e w9 ⟨rfl, rfl⟩
    clear h1 h2
    go_wp2_with fail
    refine (rtParked_any w F g t H.out hnP).mono ?_
    rintro e w4 ⟨v4, m4, rfl, hm4, ho4, hc4⟩
    obtain ⟨A4, c4, rfl, hmc, hcm, hr4, _⟩ := ho4.open_
    have h3 := refHas_any w4 A4 m4 c4 _ nm hr4 (by unfold maxLen at hcm; omega)
    rw [HP.out] at h3
    clear hr4 ho4 hm4
    go_wp2_with fail
    refine h3.mono ?_
    rintro e w9 ⟨rfl, rfl⟩
    go_wp2_with fail
    go_ret
    exact Hstay.out _ _ He.out.symm (by decide) hc4
  | false =>
  have HP := Lib.hid hP
  have hno : t.has nm = false := by rw [hhas, hP]
  clear hP hhas
  have hmx : (decide (t.mx < 1) = true ∧ Hid (t.top = 1)) ∨ (decide (t.mx < 1) = false ∧ Hid (t.top = t.mx)) := by
    by_cases h : t.mx < 1
    · exact .inl ⟨decide_eq_true h, by show t.top = 1; unfold TrS.top; exact if_pos (by omega)⟩
    · exact .inr ⟨decide_eq_false h, by show t.top = t.mx; unfold TrS.top; split <;> omega⟩
  have hfull : (Hid (t.addE nm = 31) ∧ t.top ≤ (t.len : Int)) ∨ (Hid (t.addE nm = 0) ∧ (t.len : Int) < t.top) := by
    by_cases h : t.top ≤ (t.len : Int)
    · exact .inl ⟨by show _ = _; unfold TrS.addE; rw [if_pos ⟨Hv.out, hno⟩, if_pos h], h⟩
    · exact .inr ⟨by show _ = _; unfold TrS.addE; rw [if_pos ⟨Hv.out, hno⟩, if_neg h], by omega⟩
  have hl := rtLen_any
  have Hl := Lib.hid hl
  clear hno hl
  obtain ⟨N, hN⟩ : ∃ N, t.len = N := ⟨_, rfl⟩
  rw [hN] at hfull
  have HN := Lib.hid hN
  clear hN
  rcases hmx with ⟨d1, ht⟩ | ⟨d1, ht⟩
  all_goals
    rw [ht.out] at hfull
    go_enter Try.func22, Try.ntmps22
    go_wp2_with fail
    refine (refValid_any nm _ hid2).mono ?_
    rintro e w9 ⟨rfl, rfl⟩
    rw [Hv.out]
    go_wp2_with fail
    refine h1.mono ?_
    rintro e w9 ⟨rfl, rfl⟩
    go_wp2_with fail
    refine h2.mono ?_
    rintro e w9 ⟨rfl, rfl⟩
    clear h1 h2
    go_wp2_with fail
    refine (rtParked_any w F g t H.out hnP).mono ?_
    rintro e w4 ⟨v4, m4, rfl, hm4, ho4, hc4⟩
    obtain ⟨A4, c4, rfl, hmc, hcm, hr4, _⟩ := ho4.open_
    have h3 := refHas_any w4 A4 m4 c4 _ nm hr4 (by unfold maxLen at hcm; omega)
    rw [HP.out] at h3
    clear hr4 ho4 hm4
    have e0c := hc4.cell c0c id
    have e1c := hc4.cell c1c id
    have h4 := HA.out.non hc4
    have hgl4 := h4.hb.lt
    go_wp2_with fail
    refine h3.mono ?_
    rintro e w9 ⟨rfl, rfl⟩
    clear h3
    have HL := Lib.hid (Hl.out w4 F g t (H.out.non hc4) (by have := Hs.out; omega))
    have H4 := Lib.hid h4
    have Hr := Lib.hid h4.hR
    have HbF : Hid (∀ b, (Value.slice A n c).ownBlock = some b → F b) := fun b hb => by rw [Hp.out]; exact .inr (.inl hb)
    have HgF : Hid (F g) := by show F g; rw [Hp.out]; exact .inl rfl
    clear h4
    rcases hfull with ⟨he, hf⟩ | ⟨he, hf⟩
    · go_wp2_with fail
      refine HL.out.mono ?_
      rintro e w9 ⟨rfl, j, rfl⟩
      rw [HN.out]
      go_wp2_with fail
      go_ret
      exact Hstay.out _ _ he.out.symm (by decide) (hc4.drewN j)
    · go_wp2_with fail
      refine HL.out.mono ?_
      rintro e w9 ⟨rfl, j, rfl⟩
      rw [HN.out]
      go_wp2_with (at_builtin; refine appR1 (K := rkI) rfl (.tmp 47) (.tmp 49) rfl (Hr.out.drewN j) rfl (cs := #[.string nm]) rfl rfl (sv_one [nm]) ?_ ?_ ?_; (next => omega); (next => exact Nat.zero_le _); intro v6 w6 o6 c6 hv6; obtain ⟨A6, d6, rfl, _⟩ := o6.open_; have h6 := ((H4.out.non ((Chg.refl _ w4).drewN j)).hb.chg c6 (fun e => H4.out.gR _ e rfl)); have f6 := h6.frozen 1; have k6 : w6.cell? ⟨g, 1, none⟩ = some (.slice A n c) := h6.cell 1; have hgl6 := h6.lt)
      go_ret
      have hsw := H4.out.swapR (R := t.R ++ [nm]) (((Chg.refl _ w4).drewN j).trans c6) (fun b e => e) (by rw [sv_snoc]; exact o6) (by rw [List.length_append, List.length_singleton, H4.out.hn.out]) (fun b hb => hv6.imp (fun h => by rw [← h]; exact hb) (fun h => by rw [h] at hb; have h1 := Option.some.inj hb; have h2 : (w4.drewN j).heap.size = w4.heap.size := rfl; omega))
      obtain ⟨F2, h2, h3, h4⟩ := hsw.rt
      unfold RAddPost
      rw [he.out, if_pos rfl, Hp.out]
      exact ⟨rfl, F2, h2, fun b hb => (h3 b hb).imp id (fun h => by have := hc4.size; omega), hc4.of_non.trans h4⟩
end Go.Proofs.Ytfglikgifkpfpaa
