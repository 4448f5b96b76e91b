/-
  gleanerref14.Table: Next, Steal, End, Back, Park.
-/
import Derived.Test.YtfglikgifkpfpaaTabRefAdd
import Derived.Test.YtfglikgifkpfpaaRowN
namespace Go.Proofs.Ytfglikgifkpfpaa
open Go.RowKit
set_option linter.unusedVariables false
set_option linter.unusedSimpArgs false

theorem rtNext_no (w : World) (F : Nat → Prop) (g : Nat) (t : TrS) (h : Rt w F g t) (hR : t.R = []) :
    Calls Try.prog 23 #[.pointer (some ⟨g, 0, none⟩)] w fun e w2 => e = .returned (.tuple #[.string ⟨#[]⟩, .bool false]) ∧ w = w2 := by
  obtain ⟨A, n, c, A2, n2, c2, A3, n3, c3, h, rfl⟩ := h
  obtain rfl : n = 0 := by have := h.hn.out; rw [hR] at this; exact this
  have c1c := h.hb.cell 1
  simp only [List.getElem?_toArray, List.getElem?_cons_zero, List.getElem?_cons_succ] at c1c
  clear h hR
  go_enter Try.func23, Try.ntmps23
  go_wp2_with fail
  go_ret2
  exact ⟨rfl, rfl⟩

set_option maxRecDepth 100000 in
set_option maxHeartbeats 2000000 in
theorem rtNext_yes (w : World) (F : Nat → Prop) (g : Nat) (t : TrS) (R : List ByteArray) (x : ByteArray) (h : Rt w F g t) (hR : t.R = R ++ [x]) (hs : t.len ≤ 100000) :
    Calls Try.prog 23 #[.pointer (some ⟨g, 0, none⟩)] w (RtPost w F g (.tuple #[.string x, .bool true]) { t with R := R, G := riseS x t.G }) := by
  obtain ⟨A, n, c, A2, n2, c2, A3, n3, c3, h, hF⟩ := h
  have Hp := Lib.hid hF
  have hlen : t.len = t.R.length + t.G.length + t.P.length := rfl
  have hnl : n ≤ 100000 := by have := h.hn.out; omega
  have hn2l : n2 ≤ 100000 := by have := h.hn2.out; omega
  have hnR := h.hn.out
  rw [hR, List.length_append, List.length_singleton] at hnR
  obtain ⟨r, hr⟩ : ∃ r, R.length = r := ⟨_, rfl⟩
  rw [hr] at hnR
  have HR := Lib.hid hR
  have Hr := Lib.hid hr
  have h0 : r < n := by omega
  have e1 : (n : Int) - 1 = (r : Int) := by omega
  have e2 : IntKind.i64.wrap ((n : Int) - 1) = (r : Int) := by rw [e1]; exact IntWalk.i64_in _ (by omega)
  obtain ⟨ad, y, rfl, hy, hcell⟩ := h.hR.rds.getS h0
  obtain rfl : y = x := by
    rw [hR, List.getElem?_append_right (by omega), hr, Nat.sub_self] at hy
    exact (Option.some.inj hy).symm
  have hrU := h.hR.rds.upto (k := r) (by omega)
  rw [show (sv t.R).take (r * 1) = sv R by rw [Nat.mul_one, ← sv_take, hR, ← hr, List.take_left']; rfl] at hrU
  have hcap : n ≤ c := by obtain ⟨_, _, e, hh, _⟩ := h.hR.open_; injection e with _ _ e3; omega
  have hsl : ∀ wx, (Instr.slice 26 (.slice (some ad) n c) none (some (.int .i64 (r : Int))) none).run Try.prog wx = .ok (.slice (some ad) r c) wx := fun wx => run_slice_hi (P := Try.prog) Try.underlying26 (by kernel_rfl) (kl := .i64) (i := (r : Int)) (k := r) (c := c) rfl (by omega) _ _ wx
  have c1c := h.hb.cell 1
  have c2c := h.hb.cell 2
  simp only [List.getElem?_toArray, List.getElem?_cons_zero, List.getElem?_cons_succ] at c1c c2c
  have HA := Lib.hid h
  have hgl := h.hb.lt
  have Hns := Lib.hid hnR
  have hb0 : (0 : Int) ≤ (r : Int) := by omega
  have hb1 : (r : Int) < (n : Int) := by omega
  have hb2 : decide ((n : Int) = 0) = false := by simp; omega
  have hb3 : ((n : Int) == 0) = false := by simp; omega
  clear h hR hr hnR hy hF hlen
  go_enter Try.func23, Try.ntmps23
  go_wp2_with (at_builtin; refine appRn (K := rkI) rfl (.tmp 28) rfl hrU rfl (svI_one _) (by omega) ?_; intro A6 d6 w6 o6 C6; have hb6 := HA.out.hb.non C6; have f6 := hb6.frozen 1; have k6 : w6.cell? ⟨g, 1, none⟩ = some (.slice (some ad) n c) := hb6.cell 1; have hgl6 := hb6.lt; have hsw6 := Lib.hid (HA.out.swapR (R := R) C6 (fun _ e => e.elim) (o6.mono (b2 := 0) (Nat.zero_le _)) (by have := Hr.out; omega) (fun b hb => .inr (o6.lt hb).1)); obtain ⟨w7, hw7⟩ : ∃ w7, w6.setCell ⟨g, 1, none⟩ (.slice A6 r d6) = w7 := ⟨_, rfl⟩; rw [hw7] at hsw6; have k27 : w7.cell? ⟨g, 2, none⟩ = some (.slice A2 n2 c2) := hsw6.out.at_.hb.cell 2)
  have H7 := hsw6.out
  have hs7 := H7.chg.size
  refine (putS_any w7 0 _ n2 t.G y H7.at_.hG (Nat.zero_le _) (by omega)).mono ?_
  rintro e w8 ⟨v8, n8, rfl, ho8, hc8, hv8⟩
  obtain ⟨A8, d8, rfl, _⟩ := ho8.open_
  have hsw8 := Lib.hid (H7.at_.swapG (R := riseS y t.G) hc8 (fun _ e => e.elim) ho8 (by have := ho8.len; simpa [sv] using this.symm) hv8)
  have k28 := H7.at_.hb.non hc8
  have f28 := k28.frozen 2
  have c28 : w8.cell? ⟨g, 2, none⟩ = some (.slice A2 n2 c2) := k28.cell 2
  have hgl8 := k28.lt
  clear k28 H7 ho8 hv8 hc8 k27 o6 hb6 C6 hw7
  go_wp2_with fail
  go_ret2
  obtain ⟨F2, h2, h3, h4⟩ := hsw8.out.rt
  rw [Hp.out]
  refine ⟨rfl, F2, h2, fun b hb => ?_, hsw6.out.chg.trans2 h4 (fun b e => (hsw6.out.sub b e))⟩
  rcases h3 b hb with h | h
  · exact hsw6.out.sub b h
  · exact .inr (by omega)
end Go.Proofs.Ytfglikgifkpfpaa
