/-
  gleanerref14.Table: Steal, End, Back, Park.
-/
import Derived.Test.YtfglikgifkpfpaaTabRefCalls
namespace Go.Proofs.Ytfglikgifkpfpaa
open Go.RowKit
set_option linter.unusedVariables false
set_option linter.unusedSimpArgs false

theorem rtSteal_no (w : World) (F : Nat → Prop) (g : Nat) (t : TrS) (h : Rt w F g t) (hR : t.R = []) :
    Calls Try.prog 29 #[.pointer (some ⟨g, 0, none⟩)] w fun e w2 => e = .returned (.tuple #[.string ⟨#[]⟩, .bool false]) ∧ w = w2 := by
  obtain ⟨A, n, c, A2, n2, c2, A3, n3, c3, h, rfl⟩ := h
  obtain rfl : n = 0 := by have := h.hn.out; rw [hR] at this; exact this
  have c1c := h.hb.cell 1
  simp only [List.getElem?_toArray, List.getElem?_cons_zero, List.getElem?_cons_succ] at c1c
  clear h hR
  go_enter Try.func29, Try.ntmps29
  go_wp2_with fail
  go_ret2
  exact ⟨rfl, rfl⟩

set_option maxRecDepth 100000 in
set_option maxHeartbeats 2000000 in
theorem rtSteal_yes (w : World) (F : Nat → Prop) (g : Nat) (t : TrS) (R : List ByteArray) (x : ByteArray) (h : Rt w F g t) (hR : t.R = x :: R) (hs : t.len ≤ 100000) :
    Calls Try.prog 29 #[.pointer (some ⟨g, 0, none⟩)] w (RtPost w F g (.tuple #[.string x, .bool true]) { t with R := R }) := by
  obtain ⟨A, n, c, A2, n2, c2, A3, n3, c3, h, hF⟩ := h
  have Hp := Lib.hid hF
  have hlen : t.len = t.R.length + t.G.length + t.P.length := rfl
  have hnl : n ≤ 100000 := by have := h.hn.out; omega
  have hnR := h.hn.out
  rw [hR, List.length_cons] at hnR
  obtain ⟨r, hr⟩ : ∃ r, R.length = r := ⟨_, rfl⟩
  rw [hr] at hnR
  subst hnR
  have Hr := Lib.hid hr
  obtain ⟨ad, y, rfl, hy, hcell⟩ := h.hR.rds.getS (k := 0) (by omega)
  obtain rfl : y = x := by
    rw [hR] at hy
    exact (Option.some.inj hy).symm
  have hcell : w.cell? ad = some (.string y) := hcell
  have hcap : r + 1 ≤ c := by obtain ⟨_, _, e, hh, _⟩ := h.hR.open_; injection e with _ _ e3; omega
  have hrU := h.hR.rds.cutA (k := 1) (c := c) (by omega) hcap
  rw [show (sv t.R).drop (1 * 1) = sv R by rw [hR]; rfl, Nat.add_sub_cancel] at hrU
  have hsl : ∀ wx, (Instr.slice 26 (.slice (some ad) (r + 1) c) (some (.int .i64 1)) none none).run Try.prog wx = .ok (.slice (cutA (some ad) c 1 1) r (c - 1)) wx := fun wx => by
    have := run_slice_lo (P := Try.prog) Try.underlying26 1 (by kernel_rfl) (by kernel_rfl) (kl := .i64) (i := 1) (k := 1) (n := r + 1) rfl (by omega) (some ad) c wx
    rw [Nat.add_sub_cancel] at this
    exact this
  have c1c := h.hb.cell 1
  simp only [List.getElem?_toArray, List.getElem?_cons_zero, List.getElem?_cons_succ] at c1c
  have HA := Lib.hid h
  have hgl := h.hb.lt
  have hb3 : (((r + 1 : Nat) : Int) == 0) = false := by simp; omega
  clear h hR hr hy hF hlen
  go_enter Try.func29, Try.ntmps29
  go_wp2_with (at_builtin; refine appRn (K := rkI) rfl (.tmp 22) rfl hrU rfl (svI_one _) (by omega) ?_; intro A6 d6 w6 o6 C6; have hb6 := HA.out.hb.non C6; have f6 := hb6.frozen 1; have k6 : w6.cell? ⟨g, 1, none⟩ = some (.slice (some ad) (r + 1) c) := hb6.cell 1; have hgl6 := hb6.lt)
  go_ret2
  obtain ⟨F2, h2, h3, h4⟩ := (HA.out.swapR (R := R) C6 (fun _ e => e.elim) (o6.mono (b2 := 0) (Nat.zero_le _)) (by have := Hr.out; omega) (fun b hb => .inr (o6.lt hb).1)).rt
  rw [Hp.out]
  exact ⟨rfl, F2, h2, h3, h4⟩

set_option maxRecDepth 100000 in
set_option maxHeartbeats 2000000 in
theorem rtEnd_any (w : World) (F : Nat → Prop) (g : Nat) (t : TrS) (nm : ByteArray) (h : Rt w F g t) (hs : t.len ≤ 100000) :
    Calls Try.prog 30 #[.pointer (some ⟨g, 0, none⟩), .string nm] w (RtPost w F g (.bool (hasB t.G nm)) (t.ends nm)) := by
  obtain ⟨A, n, c, A2, n2, c2, A3, n3, c3, h, hF⟩ := h
  have Hp := Lib.hid hF
  have hlen : t.len = t.R.length + t.G.length + t.P.length := rfl
  have hn2l : n2 ≤ 100000 := by have := h.hn2.out; omega
  have c2c := h.hb.cell 2
  have f2c := h.hb.frozen 2
  simp only [List.getElem?_toArray, List.getElem?_cons_zero, List.getElem?_cons_succ] at c2c
  have h1 := refHas_any w A2 n2 c2 t.G nm h.hG.rds (by omega)
  have h2 := refWithout_any w A2 n2 c2 t.G nm h.hG.rds (by omega)
  have HA := Lib.hid h
  have hgl := h.hb.lt
  clear h hF hlen
  generalize hasB t.G nm = hb at h1 ⊢
  go_enter Try.func30, Try.ntmps30
  go_wp2_with fail
  refine h1.mono ?_
  rintro e w9 ⟨rfl, rfl⟩
  clear h1
  go_wp2_with fail
  refine h2.mono ?_
  rintro e w6 ⟨v6, m6, rfl, hm6, o6, c6⟩
  obtain ⟨A6, d6, rfl, _⟩ := o6.open_
  have hsw := Lib.hid (HA.out.swapG (R := remS t.G nm) c6 (fun _ e => e.elim) (o6.mono (b2 := 0) (Nat.zero_le _)) hm6 (fun b hb => .inr (o6.lt hb).1))
  have k6 := HA.out.hb.non c6
  have f6 := k6.frozen 2
  have c26 : w6.cell? ⟨g, 2, none⟩ = some (.slice A2 n2 c2) := k6.cell 2
  have hgl6 := k6.lt
  clear k6 o6 hm6 h2 c2c f2c c6
  go_wp2_with fail
  go_ret
  obtain ⟨F2, h2, h3, h4⟩ := hsw.out.rt
  rw [Hp.out]
  exact ⟨rfl, F2, h2, h3, h4⟩

def RBackPost (w : World) (F : Nat → Prop) (g : Nat) (t : TrS) (nm : ByteArray) (e : Ending) (w2 : World) : Prop := RtPost w F g (.bool (hasB t.G nm)) (if hasB t.G nm = true then t.back nm else t) e w2
set_option maxRecDepth 100000 in
set_option maxHeartbeats 2000000 in
theorem rtBack_any (w : World) (F : Nat → Prop) (g : Nat) (t : TrS) (nm : ByteArray) (h : Rt w F g t) (hs : t.len ≤ 100000) :
    Calls Try.prog 25 #[.pointer (some ⟨g, 0, none⟩), .string nm] w (RBackPost w F g t nm) := by
  have hstay : Hid (hasB t.G nm = false) → RBackPost w F g t nm (.returned (.bool false)) w := fun e => by
    unfold RBackPost
    rw [e.out, if_neg Bool.false_ne_true]
    exact RtPost.stay h (Chg.refl _ _)
  have Hstay := Lib.hid hstay
  obtain ⟨A, n, c, A2, n2, c2, A3, n3, c3, h, hF⟩ := h
  have Hp := Lib.hid hF
  have hlen : t.len = t.R.length + t.G.length + t.P.length := rfl
  have hnl : n ≤ 100000 := by have := h.hn.out; omega
  have hn2l : n2 ≤ 100000 := by have := h.hn2.out; omega
  have c2c := h.hb.cell 2
  have f2c := h.hb.frozen 2
  simp only [List.getElem?_toArray, List.getElem?_cons_zero, List.getElem?_cons_succ] at c2c
  have h1 := refHas_any w A2 n2 c2 t.G nm h.hG.rds (by omega)
  have h2 := refWithout_any w A2 n2 c2 t.G nm h.hG.rds (by omega)
  have HA := Lib.hid h
  have hgl := h.hb.lt
  clear h hF hlen hstay
  cases hb : hasB t.G nm with
  | false =>
    have Hb := Lib.hid hb
    rw [hb] at h1
    clear h2 hb
    go_enter Try.func25, Try.ntmps25
    go_wp2_with fail
    refine h1.mono ?_
    rintro e w9 ⟨rfl, rfl⟩
    go_wp2_with fail
    go_ret
    exact Hstay.out Hb
  | true =>
    have Hb := Lib.hid hb
    rw [hb] at h1
    clear hb
    go_enter Try.func25, Try.ntmps25
    go_wp2_with fail
    refine h1.mono ?_
    rintro e w9 ⟨rfl, rfl⟩
    clear h1
    go_wp2_with fail
    refine h2.mono ?_
    rintro e w6 ⟨v6, m6, rfl, hm6, o6, c6⟩
    obtain ⟨A6, d6, rfl, _⟩ := o6.open_
    have hsw := Lib.hid (HA.out.swapG (R := remS t.G nm) c6 (fun _ e => e.elim) (o6.mono (b2 := 0) (Nat.zero_le _)) hm6 (fun b hb => .inr (o6.lt hb).1))
    have k6 := HA.out.hb.non c6
    have f6 := k6.frozen 2
    have c26 : w6.cell? ⟨g, 2, none⟩ = some (.slice A2 n2 c2) := k6.cell 2
    have hgl6 := k6.lt
    obtain ⟨w7, hw7⟩ : ∃ w7, w6.setCell ⟨g, 2, none⟩ (.slice A6 m6 d6) = w7 := ⟨_, rfl⟩
    rw [hw7] at hsw
    have k17 : w7.cell? ⟨g, 1, none⟩ = some (.slice A n c) := hsw.out.at_.hb.cell 1
    have hgl7 := hsw.out.at_.hb.lt
    clear k6 o6 hm6 h2 c2c f2c c6
    go_wp2_with (at_builtin; refine appR1s (K := rkI) rfl (.tmp 25) (.tmp 27) rfl hsw.out.at_.hR rfl (cs := #[.string nm]) rfl rfl (sv_one [nm]) ?_ ?_ ?_; (next => omega); (next => exact Nat.zero_le _); intro A8 d8 w8 o8 c8 hv8; have hb8 := hsw.out.at_.hb.chg c8 (fun e => hsw.out.at_.gR _ e rfl); have f8 := hb8.frozen 1; have k8 : w8.cell? ⟨g, 1, none⟩ = some (.slice A n c) := hb8.cell 1; have hgl8 := hb8.lt)
    go_ret
    have hsw2 := hsw.out.at_.swapR (R := t.R ++ [nm]) c8 (fun b e => e) (by rw [sv_snoc]; exact o8) (by rw [List.length_append, List.length_singleton, HA.out.hn.out]) hv8
    obtain ⟨F2, h2, h3, h4⟩ := hsw2.rt
    unfold RBackPost
    rw [Hb.out, if_pos rfl, Hp.out]
    refine ⟨rfl, F2, h2, fun b hb => ?_, hsw.out.chg.trans2 h4 (fun b e => hsw.out.sub b e)⟩
    rcases h3 b hb with h | h
    · exact hsw.out.sub b h
    · exact .inr (by have := hsw.out.chg.size; omega)

def RParkPost (w : World) (F : Nat → Prop) (g : Nat) (t : TrS) (nm on : ByteArray) (e : Ending) (w2 : World) : Prop := RtPost w F g (.bool (vid on && hasB t.G nm)) (if (vid on && hasB t.G nm) = true then t.parks nm on else t) e w2
theorem pv_snoc (L : List (ByteArray × ByteArray)) (x : ByteArray × ByteArray) : pvs (L ++ [x]) = pvs L ++ cellP x := flat_snoc _ _ _
set_option maxRecDepth 100000 in
set_option maxHeartbeats 2000000 in
theorem rtPark_any (w : World) (F : Nat → Prop) (g : Nat) (t : TrS) (nm on : ByteArray) (h : Rt w F g t) (hon : on.size ≤ 1000) (hs : t.len ≤ 100000) :
    Calls Try.prog 26 #[.pointer (some ⟨g, 0, none⟩), .string nm, .string on] w (RParkPost w F g t nm on) := by
  have hstay : Hid ((vid on && hasB t.G nm) = false) → RParkPost w F g t nm on (.returned (.bool false)) w := fun e => by
    unfold RParkPost
    rw [e.out, if_neg Bool.false_ne_true]
    exact RtPost.stay h (Chg.refl _ _)
  have Hstay := Lib.hid hstay
  have hon2 : on.size ≤ 9223372036854775807 := by omega
  obtain ⟨A, n, c, A2, n2, c2, A3, n3, c3, h, hF⟩ := h
  have Hp := Lib.hid hF
  have hlen : t.len = t.R.length + t.G.length + t.P.length := rfl
  have hn2l : n2 ≤ 100000 := by have := h.hn2.out; omega
  have hn3l : n3 ≤ 100000 := by have := h.hn3.out; omega
  have c2c := h.hb.cell 2
  have f2c := h.hb.frozen 2
  simp only [List.getElem?_toArray, List.getElem?_cons_zero, List.getElem?_cons_succ] at c2c
  have h1 := refHas_any w A2 n2 c2 t.G nm h.hG.rds (by omega)
  have h2 := refWithout_any w A2 n2 c2 t.G nm h.hG.rds (by omega)
  have HA := Lib.hid h
  have hgl := h.hb.lt
  clear h hF hlen hstay
  cases hv : vid on with
  | false =>
    have Hb := Lib.hid (show (vid on && hasB t.G nm) = false by rw [hv]; rfl)
    have Hv := Lib.hid hv
    clear h2 hv
    go_enter Try.func26, Try.ntmps26
    go_wp2_with fail
    refine (refValid_any on _ hon2).mono ?_
    rintro e w9 ⟨rfl, rfl⟩
    rw [Hv.out]
    go_wp2_with fail
    go_ret
    exact Hstay.out Hb
  | true =>
  have Hv := Lib.hid hv
  cases hb : hasB t.G nm with
  | false =>
    have Hb := Lib.hid (show (vid on && hasB t.G nm) = false by rw [hb, Bool.and_false])
    rw [hb] at h1
    clear h2 hb hv
    go_enter Try.func26, Try.ntmps26
    go_wp2_with fail
    refine (refValid_any on _ hon2).mono ?_
    rintro e w9 ⟨rfl, rfl⟩
    rw [Hv.out]
    go_wp2_with fail
    refine h1.mono ?_
    rintro e w9 ⟨rfl, rfl⟩
    go_wp2_with fail
    go_ret
    exact Hstay.out Hb
  | true =>
    have Hb := Lib.hid (show (vid on && hasB t.G nm) = true by rw [hb, hv]; rfl)
    rw [hb] at h1
    clear hb hv
    go_enter Try.func26, Try.ntmps26
    go_wp2_with fail
    refine (refValid_any on _ hon2).mono ?_
    rintro e w9 ⟨rfl, rfl⟩
    rw [Hv.out]
    go_wp2_with fail
    refine h1.mono ?_
    rintro e w9 ⟨rfl, rfl⟩
    clear h1
    go_wp2_with fail
    refine h2.mono ?_
    rintro e w6 ⟨v6, m6, rfl, hm6, o6, c6⟩
    obtain ⟨A6, d6, rfl, _⟩ := o6.open_
    have hsw := Lib.hid (HA.out.swapG (R := remS t.G nm) c6 (fun _ e => e.elim) (o6.mono (b2 := 0) (Nat.zero_le _)) hm6 (fun b hb => .inr (o6.lt hb).1))
    have k6 := HA.out.hb.non c6
    have f6 := k6.frozen 2
    have c26 : w6.cell? ⟨g, 2, none⟩ = some (.slice A2 n2 c2) := k6.cell 2
    have hgl6 := k6.lt
    obtain ⟨w7, hw7⟩ : ∃ w7, w6.setCell ⟨g, 2, none⟩ (.slice A6 m6 d6) = w7 := ⟨_, rfl⟩
    rw [hw7] at hsw
    have k37 : w7.cell? ⟨g, 3, none⟩ = some (.slice A3 n3 c3) := hsw.out.at_.hb.cell 3
    have hgl7 := hsw.out.at_.hb.lt
    clear k6 o6 hm6 h2 c2c f2c c6
    go_wp2_with (at_builtin; refine appR1s (K := rkP) rfl (.tmp 34) (.tmp 38) rfl hsw.out.at_.hP rfl (cs := #[.string nm, .string on]) rfl rfl (cellP_one (nm, on)) ?_ ?_ ?_; (next => omega); (next => exact Nat.zero_le _); intro A8 d8 w8 o8 c8 hv8; have hb8 := hsw.out.at_.hb.chg c8 (fun e => hsw.out.at_.gP _ e rfl); have f8 := hb8.frozen 3; have k8 : w8.cell? ⟨g, 3, none⟩ = some (.slice A3 n3 c3) := hb8.cell 3; have hgl8 := hb8.lt)
    go_ret
    have hsw2 := hsw.out.at_.swapP (R := t.P ++ [(nm, on)]) c8 (fun b e => e) (by rw [pv_snoc]; exact o8) (by rw [List.length_append, List.length_singleton, HA.out.hn3.out]) hv8
    obtain ⟨F2, h2, h3, h4⟩ := hsw2.rt
    unfold RParkPost
    rw [Hb.out, if_pos rfl, Hp.out]
    refine ⟨rfl, F2, h2, fun b hb => ?_, hsw.out.chg.trans2 h4 (fun b e => hsw.out.sub b e)⟩
    rcases h3 b hb with h | h
    · exact hsw.out.sub b h
    · exact .inr (by have := hsw.out.chg.size; omega)
end Go.Proofs.Ytfglikgifkpfpaa
