/-
  gleanerref14.Ledger: Want, Tell.
-/
import Derived.Test.YtdcfnhggedeeiaaLedRefCommit
namespace Go.Proofs.Ytdcfnhggedeeiaa
open Go.RowKit
set_option linter.unusedVariables false
set_option linter.unusedSimpArgs false

/-- Numbers into a rising list, one by one. -/
def riseAll (L l : List Int) : List Int := l.foldl (fun a y => riseI y a) L
theorem riseAll_snoc (L l : List Int) (x : Int) : riseAll L (l ++ [x]) = riseI x (riseAll L l) := by simp [riseAll, List.foldl_append]
theorem riseAll_spec : ∀ (l L : List Int), RisesI L → RisesI (riseAll L l) ∧ (∀ z, z ∈ riseAll L l ↔ z ∈ L ∨ z ∈ l) ∧ (riseAll L l).length ≤ L.length + l.length
  | [], L, h => ⟨h, fun z => by simp [riseAll], Nat.le_refl _⟩
  | x :: l, L, h => by
    obtain ⟨h1, h2, h3⟩ := riseAll_spec l (riseI x L) (rises_riseI h)
    have h4 := riseI_le x L
    have e : riseAll L (x :: l) = riseAll (riseI x L) l := rfl
    rw [e]
    refine ⟨h1, fun z => ?_, by rw [List.length_cons]; omega⟩
    rw [h2, mem_riseI, List.mem_cons]
    constructor
    · rintro ((h | h) | h)
      · exact .inr (.inl h)
      · exact .inl h
      · exact .inr (.inr h)
    · rintro (h | h | h)
      · exact .inl (.inr h)
      · exact .inl (.inl h)
      · exact .inr h
/-- Where a name stands. -/
def wAt (W : List Wn) (a : ByteArray) : Option Nat := W.findIdx? (fun x => decide (x.nm = a))
def dW (W : List Wn) (a : ByteArray) (y : Int) : Bool := W.any (fun x => decide (x.nm = a) && inL x.L y)
structure WnOk (W : List Wn) (q : Nat) : Prop where
  nd : (W.map (·.nm)).Nodup
  rise : ∀ x ∈ W, RisesI x.L ∧ x.L.length ≤ q
theorem wAt_none {W : List Wn} {a : ByteArray} : wAt W a = none ↔ ∀ x ∈ W, x.nm ≠ a := by
  unfold wAt
  rw [List.findIdx?_eq_none_iff]
  simp
theorem wAt_spec {W : List Wn} {a : ByteArray} {k : Nat} (h : wAt W a = some k) : ∃ x, W[k]? = some x ∧ x.nm = a ∧ ∀ j y, j < k → W[j]? = some y → y.nm ≠ a := by
  unfold wAt at h
  rw [List.findIdx?_eq_some_iff_getElem] at h
  obtain ⟨h1, h2, h3⟩ := h
  refine ⟨W[k], List.getElem?_eq_getElem h1, by simpa using h2, fun j c hj hc => ?_⟩
  have := h3 j hj
  rw [List.getElem?_eq_getElem (by omega)] at hc
  obtain rfl := Option.some.inj hc
  simpa using this
theorem dW_true {W : List Wn} {a : ByteArray} {y : Int} : dW W a y = true ↔ ∃ x ∈ W, x.nm = a ∧ y ∈ x.L := by
  unfold dW
  rw [List.any_eq_true]
  simp [inL]
theorem nd_at {W : List Wn} (h : (W.map (·.nm)).Nodup) {i j : Nat} {x y : Wn} (hx : W[i]? = some x) (hy : W[j]? = some y) (e : x.nm = y.nm) : i = j := by
  obtain ⟨hi, rfl⟩ := List.getElem?_eq_some_iff.1 hx
  obtain ⟨hj, rfl⟩ := List.getElem?_eq_some_iff.1 hy
  have := (List.getElem_inj (i := i) (j := j) (h₀ := by simpa using hi) (h₁ := by simpa using hj) h).1 (by simpa using e)
  exact this
theorem WnOk.set {W : List Wn} {q q2 : Nat} (h : WnOk W q) (hq : q ≤ q2) {k : Nat} {x y : Wn} (hx : W[k]? = some x) (hn : y.nm = x.nm) (hr : RisesI y.L) (hl : y.L.length ≤ q2) : WnOk (W.set k y) q2 := by
  refine ⟨?_, fun z hz => ?_⟩
  · have : (W.set k y).map (·.nm) = W.map (·.nm) := by
      rw [List.map_set, hn]
      obtain ⟨hk, rfl⟩ := List.getElem?_eq_some_iff.1 hx
      have e : W[k].nm = (W.map (·.nm))[k]'(by simpa using hk) := by simp
      rw [e, List.set_getElem_self]
    rw [this]
    exact h.nd
  · rcases List.mem_or_eq_of_mem_set hz with hz | rfl
    · exact ⟨(h.rise z hz).1, Nat.le_trans (h.rise z hz).2 hq⟩
    · exact ⟨hr, hl⟩
theorem dW_set {W : List Wn} {q : Nat} (h : WnOk W q) {k : Nat} {x y : Wn} (hx : W[k]? = some x) (hn : y.nm = x.nm) (a : ByteArray) (z : Int) : dW (W.set k y) a z = if a = x.nm then inL y.L z else dW W a z := by
  obtain ⟨hk, hxe⟩ := List.getElem?_eq_some_iff.1 hx
  rw [Bool.eq_iff_iff, dW_true]
  by_cases e : a = x.nm
  · rw [if_pos e]
    constructor
    · rintro ⟨v, hv, h1, h2⟩
      obtain ⟨j, hj⟩ := List.getElem?_of_mem hv
      by_cases ej : j = k
      · subst ej
        rw [List.getElem?_set_self hk] at hj
        obtain rfl := Option.some.inj hj
        simpa [inL] using h2
      · rw [List.getElem?_set_ne (Ne.symm ej)] at hj
        exact absurd (nd_at h.nd hj hx (h1.trans e)) ej
    · intro h1
      exact ⟨y, List.mem_iff_getElem?.2 ⟨k, by rw [List.getElem?_set_self hk]⟩, by rw [hn, e], by simpa [inL] using h1⟩
  · rw [if_neg e, dW_true]
    constructor
    · rintro ⟨v, hv, h1, h2⟩
      rcases List.mem_or_eq_of_mem_set hv with hv | rfl
      · exact ⟨v, hv, h1, h2⟩
      · exact absurd (h1.symm.trans hn) e
    · rintro ⟨v, hv, h1, h2⟩
      obtain ⟨j, hj⟩ := List.getElem?_of_mem hv
      have ej : j ≠ k := fun e2 => by
        subst e2
        rw [hx] at hj
        obtain rfl := Option.some.inj hj
        exact e h1.symm
      exact ⟨v, List.mem_iff_getElem?.2 ⟨j, by rw [List.getElem?_set_ne (Ne.symm ej)]; exact hj⟩, h1, h2⟩
theorem dW_none {W : List Wn} {a : ByteArray} (h : wAt W a = none) (y : Int) : dW W a y = false := by
  cases hd : dW W a y with
  | false => rfl
  | true =>
    obtain ⟨x, hx, h1, _⟩ := dW_true.1 hd
    exact absurd h1 (wAt_none.1 h x hx)
theorem dW_at {W : List Wn} {q : Nat} (h : WnOk W q) {k : Nat} {x : Wn} (hx : W[k]? = some x) (z : Int) : dW W x.nm z = inL x.L z := by
  rw [Bool.eq_iff_iff, dW_true]
  constructor
  · rintro ⟨v, hv, h1, h2⟩
    obtain ⟨j, hj⟩ := List.getElem?_of_mem hv
    obtain rfl := nd_at h.nd hj hx h1
    rw [hx] at hj
    obtain rfl := Option.some.inj hj
    simpa [inL] using h2
  · intro h1
    exact ⟨x, List.mem_of_getElem? hx, rfl, by simpa [inL] using h1⟩

def SameD (W W2 : List Wn) : Prop := ∀ a z, dW W a z = dW W2 a z
/-- Want of a name that has no result. -/
def RlWantPost (w : World) (F : Nat → Prop) (g q : Nat) (T : List Cm) (W : List Wn) (nm : ByteArray) (l : List Int) (e : Ending) (w2 : World) : Prop :=
  e = .returned (.tuple #[.agg #[.int .i64 0, .int .i64 0], .bool false]) ∧ ∃ F2 W2, Rl w2 F2 g T W2 ∧ (∀ a y, dW W2 a y = (dW W a y || (decide (a = nm) && inL l y))) ∧ WnOk W2 (q + l.length) ∧ W2.length ≤ W.length + 1 ∧ (∀ b, F2 b → F b ∨ w.heap.size ≤ b) ∧ Chg F w w2

set_option maxRecDepth 100000 in
set_option maxHeartbeats 8000000 in
theorem rlWant_yes (w : World) (F : Nat → Prop) (g q : Nat) (T : List Cm) (W : List Wn) (nm : ByteArray) (B : Option Addr) (m d : Nat) (l : List Int) (h : Rl w F g T W) (hok : WnOk W q) (hnm : nm.size ≤ 1000) (hT : T.length ≤ 100000) (hWl : W.length ≤ 100000) (hq : q + m ≤ 500000) (hv : vid nm = true) (hno : atI T nm = none)
    (hr : Rds w 1 B m (iv l)) (hB : 0 < m → ∀ ad, B = some ad → ¬ F ad.block) :
    Calls Try.prog 19 #[.pointer (some ⟨g, 0, none⟩), .string nm, .slice B m d] w (RlWantPost w F g q T W nm l) := by
  have hnz : nm.size ≤ 9223372036854775807 := by omega
  obtain ⟨s0, hs0⟩ : ∃ s0, w.heap.size = s0 := ⟨_, rfl⟩
  obtain ⟨w1, hw1⟩ : ∃ w1, w.alloc (.cells #[.int .i64 0, .int .i64 0] 31) = w1 := ⟨_, rfl⟩
  have hcA : Chg Non w w1 := hw1 ▸ (Chg.refl _ _).alloc _
  have hbx : Blk w1 s0 31 #[.int .i64 0, .int .i64 0] := hw1 ▸ hs0 ▸ Blk.new _ _ _
  have hA := h.non hcA
  have hgl : g < w.heap.size := by obtain ⟨_, _, _, _, _, _, h, _⟩ := h; exact h.hb.lt
  have Hv := Lib.hid hv
  have Hok := Lib.hid hok
  have Hll := Lib.hid hr.lenMap
  have Hr := Lib.hid hr
  have HB := Lib.hid hB
  have H := Lib.hid (rlGet_none w1 F g T W nm hA hno hT)
  clear hno hA hv hok hr hB
  go_enter Try.func19, Try.ntmps19
  go_wp2_with fail
  refine H.out.mono ?_
  rintro e w2 ⟨rfl, hc2⟩
  have hC2 := hcA.non hc2
  have hbx2 := hbx.non hc2
  have hgl2 : g < w2.heap.size := by have := hC2.size; omega
  clear hc2 hcA hbx hw1
  go_wp2_with fail
  obtain ⟨w3, hw3⟩ : ∃ w3, w2.alloc (.cells #[.int .i64 0, .int .i64 0] 31) = w3 := ⟨_, rfl⟩
  have hc3 : Chg Non w2 w3 := hw3 ▸ (Chg.refl _ _).alloc _
  have hC3 := hC2.non hc3
  have hbx3 := hbx2.non hc3
  obtain ⟨A, n, c, A2, n2, c2, h, hF⟩ := h.non hC3
  have Hp := Lib.hid hF
  have hn2 := h.hn2
  have hn2l : n2 ≤ 100000 := by have := hn2.out; omega
  have hgl3 := h.hb.lt
  have c13 : w3.cell? ⟨g, 1, none⟩ = some (.slice A2 n2 c2) := h.hb.cell 1
  have f13 := h.hb.frozen 1
  have hs03 : s0 < w3.heap.size := hbx3.lt
  have HA := Lib.hid h
  have hbv : ∀ w, Calls Try.prog 26 #[.string nm] w fun e w2 => e = .returned (.bool true) ∧ w = w2 := fun w => by
    have := refValid_any nm w hnz
    rw [Hv.out] at this
    exact this
  have HrW := Lib.hid h.hW.rds
  clear hbx2 hC2 hc3 h hF H
  rw [hw3]
  clear hw3
  refine (hbv _).mono ?_
  rintro e w9 ⟨rfl, rfl⟩
  clear hbv
  cases hk0 : wAt W nm with
  | some k0 =>
    obtain ⟨x0, hx0, hx0n, hx0f⟩ := wAt_spec hk0
    have hk0n : k0 < n2 := by have := (List.getElem?_eq_some_iff.1 hx0).1; have := hn2.out; omega
    have Hx0 := Lib.hid hx0
    have Hx0n := Lib.hid hx0n
    have Hx0f := Lib.hid hx0f
    clear hk0 hx0 hx0n hx0f
    go_wp2_with fail
    go_loop [11] (fun i => ∃ j : Nat, j ≤ k0 ∧ i = .int .i64 j) (fun i => n2 - (intOf i).toNat)
    case atStart => exact ⟨0, Nat.zero_le _, rfl⟩
    case round =>
      obtain ⟨j, hj, rfl⟩ := hrel
      obtain ⟨ad, y, rfl, hy, hc0, _⟩ := HrW.out.getN cellWn_len (by decide) (show j < n2 by omega)
      have a0 : w3.cell? (ad.add (j * 2)) = some (.string y.nm) := hc0 _ rfl
      by_cases hjk : j = k0
      · subst hjk
        have e9 := Hx0.out
        rw [hy] at e9
        obtain rfl := Option.some.inj e9
        have e8 : y.nm = nm := Hx0n.out
        rw [e8] at a0
        have ss : (nm.toList == nm.toList) = true := beq_self_eq_true _
        have hjn : decide ((j : Int) = (n2 : Int)) = false := by simp; omega
        have hjn2 : ((j : Int) == (n2 : Int)) = false := by simp; omega
        have hy0 : W[j]? = some y := hy
        have hbb1 : (0 : Int) ≤ (j : Int) := by omega
        have hbb2 : (j : Int) < (n2 : Int) := by omega
        have Hy0 := Lib.hid hy0
        have He8 := Lib.hid e8
        obtain ⟨gb, cb, hv2, _⟩ := HA.out.hW.form (show 0 < n2 by omega)
        injection hv2 with e1 e2 e3
        obtain rfl := Option.some.inj e1
        subst e3
        have a0q : w3.cell? ⟨gb, j * 2, none⟩ = some (.string y.nm) := HA.out.hW.cellN cellWn_len hy (j := 0) rfl
        rw [e8] at a0q
        clear hc0 hy e9 e8 hy0 a0
        go_wp2_with fail
        clear a0q
        obtain ⟨w5, rfl⟩ : ∃ w5, w5 = w3 := ⟨_, rfl⟩
        have hC5 := hC3.of_non (S := F)
        have hx5n : j < n2 := by omega
        have hok5 : WnOk W q := Hok.out
        have HA5 := HA
        have Hx5 := Hy0
        have Hx5n := He8
        have hbx5 := hbx3
        have hF5 : ∀ b, RlF g (.slice A n c) (.slice (some ⟨gb, 0, none⟩) n2 c2) W b → F b ∨ s0 < b := fun b hb => .inl (by rw [Hp.out]; exact hb)
        have hd5 : SameD W W := fun _ _ => rfl
        have hW5l : W.length ≤ W.length + 1 := by omega
        have hc15 : w5.cell? ⟨g, 1, none⟩ = some (.slice (some ⟨gb, 0, none⟩) n2 c2) := c13
        clear hbx3 c13 f13 HrW Hx0f Hx0 Hx0n
        have hs0l5 := hbx5.lt
        have hgl5 := HA5.out.hb.lt
        have hgb := HA5.out.hW.lt (g := gb) rfl
        have hgbg : gb ≠ g := HA5.out.gW gb rfl
        have hgb0 : gb ≠ s0 := fun e => HA5.out.hW.apart hbx5 (by decide) (by rw [← e]; rfl)
        have hBF : 0 < m → ∀ ad, B = some ad → ad.block ≠ gb := fun h0 ad e e2 => by
          obtain ⟨ad2, y2, e3, _, hcy⟩ := Hr.out.getI h0
          rw [e] at e3
          obtain rfl := Option.some.inj e3
          have h1 := World.block_lt_of_cell? w _ hcy
          rw [block_add] at h1
          exact (hF5 gb (.inr (.inr (.inl rfl)))).elim (fun h => HB.out h0 ad e (e2 ▸ h)) (fun h => by omega)
        have HBF := Lib.hid hBF
        have Hr5 := Lib.hid (Hr.out.chgK hC5 HB.out)
        clear hBF
        go_loopw [12] (fun i wr => ∃ (p : Nat) (x' : Wn), p ≤ m ∧ i = .int .i64 p ∧ Hid (x'.nm = nm) ∧ Hid (x'.L = riseAll (y).L (l.take p)) ∧ RlAt wr g T ((W).set j x') A n c (some ⟨gb, 0, none⟩) (n2) c2 ∧ (∀ b, (Value.slice x'.A x'.n x'.c).ownBlock = some b → (Value.slice (y).A (y).n (y).c).ownBlock = some b ∨ w5.heap.size ≤ b) ∧ Chg (fun b => b = gb) w5 wr) (fun i _ => m - (intOf i).toNat)
        case atStart =>
          refine ⟨0, y, Nat.zero_le _, rfl, Hx5n, rfl, ?_, fun b hb => .inl hb, Chg.refl _ _⟩
          have e9 : (W).set j (y) = W := by
            obtain ⟨h1, h2⟩ := List.getElem?_eq_some_iff.1 Hx5.out
            rw [← h2, List.set_getElem_self]
          rw [e9]
          exact HA5.out
        case round =>
          obtain ⟨p, x', hp, rfl, hx'n, hx'L, hR, hxo, hC⟩ := hrel
          have hx'at : ((W).set j x')[j]? = some x' := by
            rw [List.getElem?_set_self (List.getElem?_eq_some_iff.1 Hx5.out).1]
          have hrow := hR.rows x' (List.mem_of_getElem? hx'at)
          have hspec := riseAll_spec (l.take p) (y).L (hok5.rise _ (List.mem_of_getElem? Hx5.out)).1
          have hxl5 := (hok5.rise _ (List.mem_of_getElem? Hx5.out)).2
          have hx'len : x'.n ≤ 500000 := by
            have h1 := hrow.len
            rw [iv_len, hx'L.out] at h1
            have h2 := hspec.2.2
            have h3 := List.length_take_le p l
            have h4 := Hll.out
            have e : (rkN).size = 1 := rfl
            rw [e] at h1
            omega
          by_cases hlt : p < m
          · obtain ⟨ad, yy, rfl, hy, hcy⟩ := Hr5.out.getI hlt
            have a1 := hC.cell hcy (fun e => by rw [block_add] at e; exact HBF.out (by omega) _ rfl e)
            have q0 : wr.cell? ⟨gb, j * 2 + 1, none⟩ = some (.slice x'.A x'.n x'.c) := hR.hW.cellN cellWn_len hx'at (j := 1) rfl
            have kg : ∀ wx, Chg Non wr wx → wx.cell? ⟨g, 1, none⟩ = some (.slice (some ⟨gb, 0, none⟩) (n2) c2) := fun wx h => h.cell (hR.hb.cell 1) _root_.id
            have kq : ∀ wx, Chg Non wr wx → wx.cell? ⟨gb, j * 2 + 1, none⟩ = some (.slice x'.A x'.n x'.c) := fun wx h => h.cell q0 _root_.id
            have ka : ∀ wx, Chg Non wr wx → wx.cell? (ad.add p) = some (.int .i64 yy) := fun wx h => h.cell a1 _root_.id
            have hst : riseAll (y).L (l.take (p + 1)) = riseI yy x'.L := by rw [List.take_add_one, hy, hx'L.out]; exact riseAll_snoc _ _ _
            have Hst := Lib.hid hst
            have HR := Lib.hid hR
            have Hrow := Lib.hid hrow
            have Hx'at := Lib.hid hx'at
            have hbb3 : (0 : Int) ≤ (p : Int) := by omega
            have hbb4 : (p : Int) < (m : Int) := by omega
            have hglr := hR.hb.lt
            clear hx'at hrow hspec hy hcy a1 q0 hst hR
            go_wp2_with fail
            refine st_region_tail 8 20 Non [17] [] (fun _ _ v wx => ∃ A' n' c', v = .slice A' n' c' ∧ OwnR rkN wx 0 (.slice A' n' c') n' (iv (riseI yy x'.L)) ∧ ∀ b, v.ownBlock = some b → (Value.slice x'.A x'.n x'.c).ownBlock = some b ∨ wr.heap.size ≤ b) (fun _ _ _ _ => True) (fun _ _ v => ∃ A n c, v = .slice A n c) (fun _ => True) (by kernel_rfl) (by kernel_rfl) (by kernel_rfl) (fun _ h => h.elim) trivial (fun _ _ _ => trivial) ?_
            repeat (first | (refine st_pass (by rfl) ?_; simp only [Act.put, List.setIfInBounds_toArray, List.set_cons_succ, List.set_cons_zero]) | (refine st_plain (Non) (wr) rfl rfl (f := ?_) (by rfl) rfl rfl (fun w hC hG => ?_) ?_; rotate_left; (clear hG; first | (go_simp; done) | (go_simp; with_reducible rfl) | (simp [*, go_sem, ↓IntWalk.iteOmega]; done) | (simp [*, go_sem, ↓IntWalk.iteOmega]; with_reducible rfl)); simp only [Act.put, List.setIfInBounds_toArray, List.set_cons_succ, List.set_cons_zero]))
            refine st_major (Non) (wr) rfl rfl (by rfl) rfl (⟨.slice none 0 0, none, 0, 0, rfl⟩) (fun _ _ _ _ _ _ => trivial) (fun v wx ob h => h.imp fun A' h => h.imp fun n' h => h.imp fun c' h => ⟨h.1, h.2.1.alloc ob, h.2.2⟩) (fun w hC hG hS => settle_of (r2 := ?_) ?_ ?_) ?_
            rotate_left
            (first | (go_simp; done) | (go_simp; rfl))
            · refine settle_enter ((rise_own _ 0 _ x'.n x'.L yy (Hrow.out.non hC) (Nat.zero_le _) (by omega)).mono ?_)
              rintro e w6 ⟨v6, n6, rfl, ho6, hc6, hv6⟩
              obtain ⟨A6, d6, rfl, _⟩ := ho6.open_
              have hsz6 := hC.size
              exact ⟨_, rfl, ⟨_, _, _, rfl⟩, hc6, ⟨_, _, _, rfl, ho6, fun b hb => (hv6 b hb).imp (fun h => h) (fun h => by omega)⟩, trivial⟩
            rintro v ⟨A4, n4, c4, rfl⟩
            simp only [Act.put, List.setIfInBounds_toArray, List.set_cons_succ, List.set_cons_zero]
            repeat (first | (refine st_pass (by rfl) ?_; simp only [Act.put, List.setIfInBounds_toArray, List.set_cons_succ, List.set_cons_zero]) | (refine st_plain (Non) (wr) rfl rfl (f := ?_) (by rfl) rfl rfl (fun w hC hG => ?_) ?_; rotate_left; (clear hG; first | (go_simp; done) | (go_simp; with_reducible rfl) | (simp [*, go_sem, ↓IntWalk.iteOmega]; done) | (simp [*, go_sem, ↓IntWalk.iteOmega]; with_reducible rfl)); simp only [Act.put, List.setIfInBounds_toArray, List.set_cons_succ, List.set_cons_zero]))
            refine st_tail Non wr rfl rfl rfl (fun w7 hC7 hS7 _ => ?_)
            simp only [List.drop_succ_cons, List.drop_zero]
            obtain ⟨A', n', c', e9, ho7, hv7⟩ := hS7
            injection e9 with e1 e2 e3
            subst e1 e2 e3
            have hR7 := HR.out.non hC7
            have q7 : w7.cell? ⟨gb, j * 2 + 1, none⟩ = some (.slice x'.A x'.n x'.c) := kq w7 hC7
            have f7 : w7.frozen? ⟨gb, j * 2 + 1, none⟩ = false := hR7.hW.frozen _
            obtain ⟨y', hy'⟩ : ∃ y' : Wn, (⟨nm, A4, n4, c4, riseI yy x'.L⟩ : Wn) = y' := ⟨_, rfl⟩
            have hput := hR7.hW.putN cellWn_len ⟨nm, A4, n4, c4, riseI yy x'.L⟩ Hx'at.out (j := 1) (u := .slice A4 n4 c4) (by decide) (by show [Value.string nm, .slice A4 n4 c4] = _; rw [← hx'n.out]; rfl)
            have hSt : Chg (fun b => b = gb) w7 (w7.setCell ⟨gb, j * 2 + 1, none⟩ (.slice A4 n4 c4)) := (Chg.refl _ w7).set1 _ _
            rw [List.set_set] at hput
            have hR8 : RlAt (w7.setCell ⟨gb, j * 2 + 1, none⟩ (.slice A4 n4 c4)) g T ((W).set j ⟨nm, A4, n4, c4, riseI yy x'.L⟩) A n c (some ⟨gb, 0, none⟩) (n2) c2 := by
              refine ⟨hR7.hn, ?_, hR7.hb.chg hSt (fun e => hgbg e.symm), hR7.hT.chg hSt (fun b hb e => (hR7.hT.apart2 hR7.hW (by decide)) b hb (by rw [show b = gb from e]; rfl)), hput, ?_⟩
              · show _ = _
                have := hR7.hn2.out
                rw [List.length_set] at this ⊢
                exact this
              · intro z hz
                rcases List.mem_or_eq_of_mem_set hz with hz | rfl
                · have hz2 : z ∈ (W) := hz
                  have h0 := ((HA5.out.rows z hz2).chg hC (fun b hb e => (HA5.out.hW.apart2 (HA5.out.rows z hz2) (by decide)) gb rfl (by rw [← show b = gb from e]; exact hb))).non hC7
                  exact h0.chg hSt (fun b hb e => (hR7.hW.apart2 h0 (by decide)) gb rfl (by rw [← show b = gb from e]; exact hb))
                · exact ho7.chg hSt (fun b hb e => (hR7.hW.apart2 ho7 (by decide)) gb rfl (by rw [← show b = gb from e]; exact hb))
            have hC8 : Chg (fun b => b = gb) w5 (w7.setCell ⟨gb, j * 2 + 1, none⟩ (.slice A4 n4 c4)) := (hC.non hC7).trans hSt
            have hxo8 : ∀ b, (Value.slice A4 n4 c4).ownBlock = some b → (Value.slice (y).A (y).n (y).c).ownBlock = some b ∨ w5.heap.size ≤ b := fun b hb => (hv7 b hb).elim (hxo b) (fun h => .inr (by have := hC.size; omega))
            have HR8 := Lib.hid hR8
            clear hR8 hput hSt hR7 ho7 hv7 kg kq ka hC hC7 hy' hxo
            go_wp2_with fail
            go_roundw
            case rel => exact ⟨p + 1, ⟨nm, A4, n4, c4, riseI yy x'.L⟩, by omega, by go_num, rfl, Hst.out.symm, HR8.out, hxo8, hC8⟩
            case measure => simp [intOf]; omega
          · have hst : l.take p = l := List.take_of_length_le (by have := Hll.out; omega)
            rw [hst] at hx'L hspec
            have hb9 := hbx5.chg hC (fun e => hgb0 e.symm)
            have c90 : wr.cell? ⟨s0, 0, none⟩ = some (.int .i64 0) := hb9.cell 0
            have c91 : wr.cell? ⟨s0, 1, none⟩ = some (.int .i64 0) := hb9.cell 1
            have f90 := hb9.frozen 0
            have f91 := hb9.frozen 1
            have hs9l := hb9.lt
            have HR := Lib.hid hR
            have Hspec := Lib.hid hspec
            have Hb9 := Lib.hid hb9
            have Hx'at := Lib.hid hx'at
            clear hst hb9 hR hspec hx'at hrow
            go_wp2_with fail
            refine bodyPost_ret (v := .tuple #[.agg #[.int .i64 0, .int .i64 0], .bool false]) (by simp [results, Try.results19, go_sem, *]) rfl ?_
            have hCs : Chg (fun b => b = s0) wr ((wr.setCell ⟨s0, 0, none⟩ (.int .i64 0)).setCell ⟨s0, 1, none⟩ (.int .i64 0)) := ((Chg.refl _ wr).set1 0 (.int .i64 0)).set1 1 (.int .i64 0)
            have hCw : Chg F w wr := hC5.trans2 hC (fun b e => (hF5 b (by rw [show b = gb from e]; exact .inr (.inr (.inl rfl)))).imp (fun h => h) (fun h => by omega))
            have hlm : l.length = m := Hll.out.symm
            refine ⟨rfl, RlF g (.slice A n c) (.slice (some ⟨gb, 0, none⟩) (n2) c2) ((W).set j x'), (W).set j x', ⟨A, n, c, some ⟨gb, 0, none⟩, n2, c2, ?_, rfl⟩, ?_, ?_, ?_, ?_, hCw.trans2 hCs (fun b e => .inr (by have e : b = s0 := e; omega))⟩
            · refine HR.out.chg hCs (fun b hb e => ?_)
              have e : b = s0 := e
              have hn5 : ¬ RlF g (.slice A n c) (.slice (some ⟨gb, 0, none⟩) (n2) c2) ((W).set j x') s0 := by
                rintro (e | hb | hb | ⟨x, hx, hb⟩)
                · omega
                · exact HR.out.hT.apart Hb9.out (by decide) hb
                · exact hgb0 (Option.some.inj hb)
                · exact (HR.out.rows x hx).apart Hb9.out (by decide) hb
              exact hn5 (by rw [← e]; exact hb)
            · intro a z
              rw [dW_set hok5 Hx5.out (by rw [hx'n.out, Hx5n.out]), Hx5n.out, ← hd5 a z]
              by_cases e : a = nm
              · subst e
                have h9 := dW_at hok5 Hx5.out z
                rw [Hx5n.out] at h9
                rw [if_pos rfl, h9, Bool.eq_iff_iff]
                simp only [inL, Bool.or_eq_true, Bool.and_eq_true, decide_eq_true_eq, true_and]
                rw [hx'L.out, Hspec.out.2.1]
              · rw [if_neg e]
                simp [e]
            · exact hok5.set (by omega) Hx5.out (by rw [hx'n.out, Hx5n.out]) (by rw [hx'L.out]; exact Hspec.out.1) (by rw [hx'L.out]; have := Hspec.out.2.2; omega)
            · rw [List.length_set]; exact hW5l
            · intro b hb
              have hcv : ∀ b, F b ∨ s0 < b → F b ∨ w.heap.size ≤ b := fun b h => h.imp (fun h => h) (fun h => by omega)
              rcases hb with hb | hb | hb | ⟨x, hx, hb⟩
              · exact hcv b (hF5 b (.inl hb))
              · exact hcv b (hF5 b (.inr (.inl hb)))
              · exact hcv b (hF5 b (.inr (.inr (.inl hb))))
              · rcases List.mem_or_eq_of_mem_set hx with hx | rfl
                · exact hcv b (hF5 b (.inr (.inr (.inr ⟨x, hx, hb⟩))))
                · rcases hxo b hb with h | h
                  · exact hcv b (hF5 b (.inr (.inr (.inr ⟨_, List.mem_of_getElem? Hx5.out, h⟩))))
                  · exact .inr (by have := hC5.size; omega)
      · have hne := str_neL (Hx0f.out j y (by omega) hy)
        clear hc0 hy
        go_wp2_with fail
        go_round
        case rel => exact ⟨j + 1, by omega, by go_num⟩
        case measure => simp [intOf]; omega
  | none =>
    have Hwn := Lib.hid (wAt_none.1 hk0)
    have Hdn := Lib.hid (fun y => dW_none hk0 y)
    clear hk0
    go_wp2_with fail
    go_loop [11] (fun i => ∃ j : Nat, j ≤ n2 ∧ i = .int .i64 j) (fun i => n2 - (intOf i).toNat)
    case atStart => exact ⟨0, Nat.zero_le _, rfl⟩
    case round =>
      obtain ⟨j, hj, rfl⟩ := hrel
      by_cases hjk : j < n2
      · obtain ⟨ad, y, rfl, hy, hc0, _⟩ := HrW.out.getN cellWn_len (by decide) hjk
        have a0 : w3.cell? (ad.add (j * 2)) = some (.string y.nm) := hc0 _ rfl
        have hne := str_neL (Hwn.out y (List.mem_of_getElem? hy))
        clear hc0 hy
        go_wp2_with fail
        go_round
        case rel => exact ⟨j + 1, by omega, by go_num⟩
        case measure => simp [intOf]; omega
      · obtain rfl : j = n2 := by omega
        have hgW := HA.out.gW
        have hoW := HA.out.hW
        go_wp2_with (at_builtin; refine appR1s (K := rkWn) rfl (.tmp 60) (.tmp 63) rfl hoW rfl (cs := #[.string nm, .slice none 0 0]) rfl rfl (cellWn_one ⟨nm, none, 0, 0, []⟩) ?_ ?_ ?_; (next => omega); (next => exact Nat.zero_le _); intro A6 d6 w6 o6 c6 hv6; have hb6 := HA.out.hb.chg c6 (fun e => hgW _ e rfl); have f6 := hb6.frozen 1; have k6 : w6.cell? ⟨g, 1, none⟩ = some (.slice A2 j c2) := hb6.cell 1; have hgl6 := hb6.lt; obtain ⟨gb, cb, hv2, _⟩ := o6.form (by omega); injection hv2 with e1 e2 e3; subst e1; subst e3; have hs36 := c6.size; obtain ⟨w5, hw5⟩ : ∃ w5, w6.setCell ⟨g, 1, none⟩ (.slice (some ⟨gb, 0, none⟩) (j + 1) d6) = w5 := ⟨_, rfl⟩; have hSt : Chg (fun b => b = g) w6 w5 := hw5 ▸ (Chg.refl _ w6).set1 1 _; have hb7 := hb6.put 1 (.slice (some ⟨gb, 0, none⟩) (j + 1) d6); rw [hw5] at hb7; simp only [List.setIfInBounds_toArray, List.set_cons_succ, List.set_cons_zero] at hb7; have hc15 : w5.cell? ⟨g, 1, none⟩ = some (.slice (some ⟨gb, 0, none⟩) (j + 1) d6) := hb7.cell 1; have hgl5 := hb7.lt)
        have hoR := fun x (hx : x ∈ W) => (HA.out.rows x hx).chg c6 (fun b e e2 => (hoW.apart2 (HA.out.rows x hx) (by decide)) b e2 e)
        have HA5 : Hid (RlAt w5 g T (W ++ [⟨nm, none, 0, 0, []⟩]) A n c (some ⟨gb, 0, none⟩) (j + 1) d6) := by
          refine ⟨HA.out.hn, ?_, hb7, (HA.out.hT.chg c6 (fun b e e2 => (HA.out.hT.apart2 hoW (by decide)) b e e2)).chg hSt (fun b hb e => HA.out.gT b hb e), ?_, ?_⟩
          · show j + 1 = _
            rw [List.length_append, List.length_singleton, hn2.out]
          · rw [wns_snoc]
            exact o6.chg hSt (fun b hb e => o6.apart hb6 (by decide) (by rw [hb, show b = g from e]))
          · intro x hx
            rcases List.mem_append.1 hx with hx | hx
            · exact (hoR x hx).chg hSt (fun b hb e => (hoR x hx).apart hb6 (by decide) (by rw [← show b = g from e]; exact hb))
            · simp at hx
              subst hx
              exact OwnR.nil _ _ _
        have hFb : ∀ b, (Value.slice A2 j c2).ownBlock = some b → F b := fun b hb => by rw [Hp.out]; exact .inr (.inr (.inl hb))
        have hFg : F g := by rw [Hp.out]; exact .inl rfl
        have hC5 : Chg F w w5 := (hC3.of_non.trans2 c6 (fun b e => .inl (hFb b e))).trans2 hSt (fun b e => .inl (by rw [show b = g from e]; exact hFg))
        have hbx5 := (hbx3.chg c6 (fun e => hoW.apart hbx3 (by decide) e)).chg hSt (fun e => by have e : s0 = g := e; omega)
        have hjl : j < j + 1 := by omega
        have hx5n : j < j + 1 := by omega
        have H5old : Hid ((W ++ [⟨nm, none, 0, 0, []⟩] : List Wn)[j]? = some ⟨nm, none, 0, 0, []⟩) := by
          show _ = _
          rw [List.getElem?_append_right (by have := hn2.out; omega), show j - W.length = 0 by have := hn2.out; omega]
          rfl
        have hok5 : WnOk (W ++ [⟨nm, none, 0, 0, []⟩]) q := by
          refine ⟨?_, fun x hx => ?_⟩
          · rw [List.map_append, List.nodup_append]
            refine ⟨Hok.out.nd, by simp, fun a ha b hb e => ?_⟩
            obtain ⟨x, hx, rfl⟩ := List.mem_map.1 ha
            simp at hb
            exact Hwn.out x hx (e.trans hb)
          · rcases List.mem_append.1 hx with hx | hx
            · exact Hok.out.rise x hx
            · simp at hx; subst hx; exact ⟨List.Pairwise.nil, Nat.zero_le _⟩
        have hF5 : ∀ b, RlF g (.slice A n c) (.slice (some ⟨gb, 0, none⟩) (j + 1) d6) (W ++ [⟨nm, none, 0, 0, []⟩]) b → F b ∨ s0 < b := by
          rintro b (rfl | hb | hb | ⟨x, hx, hb⟩)
          · exact .inl hFg
          · exact .inl (by rw [Hp.out]; exact .inr (.inl hb))
          · exact (hv6 b hb).imp (hFb b) (fun h => by omega)
          · rcases List.mem_append.1 hx with hx | hx
            · exact .inl (by rw [Hp.out]; exact .inr (.inr (.inr ⟨x, hx, hb⟩)))
            · simp at hx; subst hx; cases hb
        have hd5 : SameD (W ++ [⟨nm, none, 0, 0, []⟩]) W := fun a z => by
          unfold dW
          rw [List.any_append]
          simp [inL]
        have hW5l : (W ++ [(⟨nm, none, 0, 0, []⟩ : Wn)]).length ≤ W.length + 1 := by simp
        clear hbx3 c13 f13 HrW o6 c6 hv6 hb6 f6 k6 hgl6 hw5 hSt hb7 hoR hFb hFg
        generalize hW5e : (W ++ [(⟨nm, none, 0, 0, []⟩ : Wn)]) = W5 at HA5 H5old hok5 hF5 hd5 hW5l
        obtain ⟨x5, Hx5, Hx5n⟩ : ∃ x5 : Wn, Hid (W5[j]? = some x5) ∧ Hid (x5.nm = nm) := ⟨_, H5old, rfl⟩
        clear hW5e H5old
        have hs0l5 := hbx5.lt
        have hgl5 := HA5.out.hb.lt
        have hgb := HA5.out.hW.lt (g := gb) rfl
        have hgbg : gb ≠ g := HA5.out.gW gb rfl
        have hgb0 : gb ≠ s0 := fun e => HA5.out.hW.apart hbx5 (by decide) (by rw [← e]; rfl)
        have hBF : 0 < m → ∀ ad, B = some ad → ad.block ≠ gb := fun h0 ad e e2 => by
          obtain ⟨ad2, y2, e3, _, hcy⟩ := Hr.out.getI h0
          rw [e] at e3
          obtain rfl := Option.some.inj e3
          have h1 := World.block_lt_of_cell? w _ hcy
          rw [block_add] at h1
          exact (hF5 gb (.inr (.inr (.inl rfl)))).elim (fun h => HB.out h0 ad e (e2 ▸ h)) (fun h => by omega)
        have HBF := Lib.hid hBF
        have Hr5 := Lib.hid (Hr.out.chgK hC5 HB.out)
        clear hBF
        go_loopw [12] (fun i wr => ∃ (p : Nat) (x' : Wn), p ≤ m ∧ i = .int .i64 p ∧ Hid (x'.nm = nm) ∧ Hid (x'.L = riseAll (x5).L (l.take p)) ∧ RlAt wr g T ((W5).set j x') A n c (some ⟨gb, 0, none⟩) (j + 1) d6 ∧ (∀ b, (Value.slice x'.A x'.n x'.c).ownBlock = some b → (Value.slice (x5).A (x5).n (x5).c).ownBlock = some b ∨ w5.heap.size ≤ b) ∧ Chg (fun b => b = gb) w5 wr) (fun i _ => m - (intOf i).toNat)
        case atStart =>
          refine ⟨0, x5, Nat.zero_le _, rfl, Hx5n, rfl, ?_, fun b hb => .inl hb, Chg.refl _ _⟩
          have e9 : (W5).set j (x5) = W5 := by
            obtain ⟨h1, h2⟩ := List.getElem?_eq_some_iff.1 Hx5.out
            rw [← h2, List.set_getElem_self]
          rw [e9]
          exact HA5.out
        case round =>
          obtain ⟨p, x', hp, rfl, hx'n, hx'L, hR, hxo, hC⟩ := hrel
          have hx'at : ((W5).set j x')[j]? = some x' := by
            rw [List.getElem?_set_self (List.getElem?_eq_some_iff.1 Hx5.out).1]
          have hrow := hR.rows x' (List.mem_of_getElem? hx'at)
          have hspec := riseAll_spec (l.take p) (x5).L (hok5.rise _ (List.mem_of_getElem? Hx5.out)).1
          have hxl5 := (hok5.rise _ (List.mem_of_getElem? Hx5.out)).2
          have hx'len : x'.n ≤ 500000 := by
            have h1 := hrow.len
            rw [iv_len, hx'L.out] at h1
            have h2 := hspec.2.2
            have h3 := List.length_take_le p l
            have h4 := Hll.out
            have e : (rkN).size = 1 := rfl
            rw [e] at h1
            omega
          by_cases hlt : p < m
          · obtain ⟨ad, yy, rfl, hy, hcy⟩ := Hr5.out.getI hlt
            have a1 := hC.cell hcy (fun e => by rw [block_add] at e; exact HBF.out (by omega) _ rfl e)
            have q0 : wr.cell? ⟨gb, j * 2 + 1, none⟩ = some (.slice x'.A x'.n x'.c) := hR.hW.cellN cellWn_len hx'at (j := 1) rfl
            have kg : ∀ wx, Chg Non wr wx → wx.cell? ⟨g, 1, none⟩ = some (.slice (some ⟨gb, 0, none⟩) (j + 1) d6) := fun wx h => h.cell (hR.hb.cell 1) _root_.id
            have kq : ∀ wx, Chg Non wr wx → wx.cell? ⟨gb, j * 2 + 1, none⟩ = some (.slice x'.A x'.n x'.c) := fun wx h => h.cell q0 _root_.id
            have ka : ∀ wx, Chg Non wr wx → wx.cell? (ad.add p) = some (.int .i64 yy) := fun wx h => h.cell a1 _root_.id
            have hst : riseAll (x5).L (l.take (p + 1)) = riseI yy x'.L := by rw [List.take_add_one, hy, hx'L.out]; exact riseAll_snoc _ _ _
            have Hst := Lib.hid hst
            have HR := Lib.hid hR
            have Hrow := Lib.hid hrow
            have Hx'at := Lib.hid hx'at
            have hbb1 : (0 : Int) ≤ (j : Int) := by omega
            have hbb2 : (j : Int) < ((j + 1 : Nat) : Int) := by omega
            have hbb3 : (0 : Int) ≤ (p : Int) := by omega
            have hbb4 : (p : Int) < (m : Int) := by omega
            have hglr := hR.hb.lt
            clear hx'at hrow hspec hy hcy a1 q0 hst hR
            go_wp2_with fail
            refine st_region_tail 8 20 Non [17] [] (fun _ _ v wx => ∃ A' n' c', v = .slice A' n' c' ∧ OwnR rkN wx 0 (.slice A' n' c') n' (iv (riseI yy x'.L)) ∧ ∀ b, v.ownBlock = some b → (Value.slice x'.A x'.n x'.c).ownBlock = some b ∨ wr.heap.size ≤ b) (fun _ _ _ _ => True) (fun _ _ v => ∃ A n c, v = .slice A n c) (fun _ => True) (by kernel_rfl) (by kernel_rfl) (by kernel_rfl) (fun _ h => h.elim) trivial (fun _ _ _ => trivial) ?_
            repeat (first | (refine st_pass (by rfl) ?_; simp only [Act.put, List.setIfInBounds_toArray, List.set_cons_succ, List.set_cons_zero]) | (refine st_plain (Non) (wr) rfl rfl (f := ?_) (by rfl) rfl rfl (fun w hC hG => ?_) ?_; rotate_left; (clear hG; first | (go_simp; done) | (go_simp; with_reducible rfl) | (simp [*, go_sem, ↓IntWalk.iteOmega]; done) | (simp [*, go_sem, ↓IntWalk.iteOmega]; with_reducible rfl)); simp only [Act.put, List.setIfInBounds_toArray, List.set_cons_succ, List.set_cons_zero]))
            refine st_major (Non) (wr) rfl rfl (by rfl) rfl (⟨.slice none 0 0, none, 0, 0, rfl⟩) (fun _ _ _ _ _ _ => trivial) (fun v wx ob h => h.imp fun A' h => h.imp fun n' h => h.imp fun c' h => ⟨h.1, h.2.1.alloc ob, h.2.2⟩) (fun w hC hG hS => settle_of (r2 := ?_) ?_ ?_) ?_
            rotate_left
            (first | (go_simp; done) | (go_simp; rfl))
            · refine settle_enter ((rise_own _ 0 _ x'.n x'.L yy (Hrow.out.non hC) (Nat.zero_le _) (by omega)).mono ?_)
              rintro e w6 ⟨v6, n6, rfl, ho6, hc6, hv6⟩
              obtain ⟨A6, d6, rfl, _⟩ := ho6.open_
              have hsz6 := hC.size
              exact ⟨_, rfl, ⟨_, _, _, rfl⟩, hc6, ⟨_, _, _, rfl, ho6, fun b hb => (hv6 b hb).imp (fun h => h) (fun h => by omega)⟩, trivial⟩
            rintro v ⟨A4, n4, c4, rfl⟩
            simp only [Act.put, List.setIfInBounds_toArray, List.set_cons_succ, List.set_cons_zero]
            repeat (first | (refine st_pass (by rfl) ?_; simp only [Act.put, List.setIfInBounds_toArray, List.set_cons_succ, List.set_cons_zero]) | (refine st_plain (Non) (wr) rfl rfl (f := ?_) (by rfl) rfl rfl (fun w hC hG => ?_) ?_; rotate_left; (clear hG; first | (go_simp; done) | (go_simp; with_reducible rfl) | (simp [*, go_sem, ↓IntWalk.iteOmega]; done) | (simp [*, go_sem, ↓IntWalk.iteOmega]; with_reducible rfl)); simp only [Act.put, List.setIfInBounds_toArray, List.set_cons_succ, List.set_cons_zero]))
            refine st_tail Non wr rfl rfl rfl (fun w7 hC7 hS7 _ => ?_)
            simp only [List.drop_succ_cons, List.drop_zero]
            obtain ⟨A', n', c', e9, ho7, hv7⟩ := hS7
            injection e9 with e1 e2 e3
            subst e1 e2 e3
            have hR7 := HR.out.non hC7
            have q7 : w7.cell? ⟨gb, j * 2 + 1, none⟩ = some (.slice x'.A x'.n x'.c) := kq w7 hC7
            have f7 : w7.frozen? ⟨gb, j * 2 + 1, none⟩ = false := hR7.hW.frozen _
            obtain ⟨y', hy'⟩ : ∃ y' : Wn, (⟨nm, A4, n4, c4, riseI yy x'.L⟩ : Wn) = y' := ⟨_, rfl⟩
            have hput := hR7.hW.putN cellWn_len ⟨nm, A4, n4, c4, riseI yy x'.L⟩ Hx'at.out (j := 1) (u := .slice A4 n4 c4) (by decide) (by show [Value.string nm, .slice A4 n4 c4] = _; rw [← hx'n.out]; rfl)
            have hSt : Chg (fun b => b = gb) w7 (w7.setCell ⟨gb, j * 2 + 1, none⟩ (.slice A4 n4 c4)) := (Chg.refl _ w7).set1 _ _
            rw [List.set_set] at hput
            have hR8 : RlAt (w7.setCell ⟨gb, j * 2 + 1, none⟩ (.slice A4 n4 c4)) g T ((W5).set j ⟨nm, A4, n4, c4, riseI yy x'.L⟩) A n c (some ⟨gb, 0, none⟩) (j + 1) d6 := by
              refine ⟨hR7.hn, ?_, hR7.hb.chg hSt (fun e => hgbg e.symm), hR7.hT.chg hSt (fun b hb e => (hR7.hT.apart2 hR7.hW (by decide)) b hb (by rw [show b = gb from e]; rfl)), hput, ?_⟩
              · show _ = _
                have := hR7.hn2.out
                rw [List.length_set] at this ⊢
                exact this
              · intro z hz
                rcases List.mem_or_eq_of_mem_set hz with hz | rfl
                · have hz2 : z ∈ (W5) := hz
                  have h0 := ((HA5.out.rows z hz2).chg hC (fun b hb e => (HA5.out.hW.apart2 (HA5.out.rows z hz2) (by decide)) gb rfl (by rw [← show b = gb from e]; exact hb))).non hC7
                  exact h0.chg hSt (fun b hb e => (hR7.hW.apart2 h0 (by decide)) gb rfl (by rw [← show b = gb from e]; exact hb))
                · exact ho7.chg hSt (fun b hb e => (hR7.hW.apart2 ho7 (by decide)) gb rfl (by rw [← show b = gb from e]; exact hb))
            have hC8 : Chg (fun b => b = gb) w5 (w7.setCell ⟨gb, j * 2 + 1, none⟩ (.slice A4 n4 c4)) := (hC.non hC7).trans hSt
            have hxo8 : ∀ b, (Value.slice A4 n4 c4).ownBlock = some b → (Value.slice (x5).A (x5).n (x5).c).ownBlock = some b ∨ w5.heap.size ≤ b := fun b hb => (hv7 b hb).elim (hxo b) (fun h => .inr (by have := hC.size; omega))
            have HR8 := Lib.hid hR8
            clear hR8 hput hSt hR7 ho7 hv7 kg kq ka hC hC7 hy' hxo
            go_wp2_with fail
            go_roundw
            case rel => exact ⟨p + 1, ⟨nm, A4, n4, c4, riseI yy x'.L⟩, by omega, by go_num, rfl, Hst.out.symm, HR8.out, hxo8, hC8⟩
            case measure => simp [intOf]; omega
          · have hst : l.take p = l := List.take_of_length_le (by have := Hll.out; omega)
            rw [hst] at hx'L hspec
            have hb9 := hbx5.chg hC (fun e => hgb0 e.symm)
            have c90 : wr.cell? ⟨s0, 0, none⟩ = some (.int .i64 0) := hb9.cell 0
            have c91 : wr.cell? ⟨s0, 1, none⟩ = some (.int .i64 0) := hb9.cell 1
            have f90 := hb9.frozen 0
            have f91 := hb9.frozen 1
            have hs9l := hb9.lt
            have HR := Lib.hid hR
            have Hspec := Lib.hid hspec
            have Hb9 := Lib.hid hb9
            have Hx'at := Lib.hid hx'at
            clear hst hb9 hR hspec hx'at hrow
            go_wp2_with fail
            refine bodyPost_ret (v := .tuple #[.agg #[.int .i64 0, .int .i64 0], .bool false]) (by simp [results, Try.results19, go_sem, *]) rfl ?_
            have hCs : Chg (fun b => b = s0) wr ((wr.setCell ⟨s0, 0, none⟩ (.int .i64 0)).setCell ⟨s0, 1, none⟩ (.int .i64 0)) := ((Chg.refl _ wr).set1 0 (.int .i64 0)).set1 1 (.int .i64 0)
            have hCw : Chg F w wr := hC5.trans2 hC (fun b e => (hF5 b (by rw [show b = gb from e]; exact .inr (.inr (.inl rfl)))).imp (fun h => h) (fun h => by omega))
            have hlm : l.length = m := Hll.out.symm
            refine ⟨rfl, RlF g (.slice A n c) (.slice (some ⟨gb, 0, none⟩) (j + 1) d6) ((W5).set j x'), (W5).set j x', ⟨A, n, c, some ⟨gb, 0, none⟩, j + 1, d6, ?_, rfl⟩, ?_, ?_, ?_, ?_, hCw.trans2 hCs (fun b e => .inr (by have e : b = s0 := e; omega))⟩
            · refine HR.out.chg hCs (fun b hb e => ?_)
              have e : b = s0 := e
              have hn5 : ¬ RlF g (.slice A n c) (.slice (some ⟨gb, 0, none⟩) (j + 1) d6) ((W5).set j x') s0 := by
                rintro (e | hb | hb | ⟨x, hx, hb⟩)
                · omega
                · exact HR.out.hT.apart Hb9.out (by decide) hb
                · exact hgb0 (Option.some.inj hb)
                · exact (HR.out.rows x hx).apart Hb9.out (by decide) hb
              exact hn5 (by rw [← e]; exact hb)
            · intro a z
              rw [dW_set hok5 Hx5.out (by rw [hx'n.out, Hx5n.out]), Hx5n.out, ← hd5 a z]
              by_cases e : a = nm
              · subst e
                have h9 := dW_at hok5 Hx5.out z
                rw [Hx5n.out] at h9
                rw [if_pos rfl, h9, Bool.eq_iff_iff]
                simp only [inL, Bool.or_eq_true, Bool.and_eq_true, decide_eq_true_eq, true_and]
                rw [hx'L.out, Hspec.out.2.1]
              · rw [if_neg e]
                simp [e]
            · exact hok5.set (by omega) Hx5.out (by rw [hx'n.out, Hx5n.out]) (by rw [hx'L.out]; exact Hspec.out.1) (by rw [hx'L.out]; have := Hspec.out.2.2; omega)
            · rw [List.length_set]; exact hW5l
            · intro b hb
              have hcv : ∀ b, F b ∨ s0 < b → F b ∨ w.heap.size ≤ b := fun b h => h.imp (fun h => h) (fun h => by omega)
              rcases hb with hb | hb | hb | ⟨x, hx, hb⟩
              · exact hcv b (hF5 b (.inl hb))
              · exact hcv b (hF5 b (.inr (.inl hb)))
              · exact hcv b (hF5 b (.inr (.inr (.inl hb))))
              · rcases List.mem_or_eq_of_mem_set hx with hx | rfl
                · exact hcv b (hF5 b (.inr (.inr (.inr ⟨x, hx, hb⟩))))
                · rcases hxo b hb with h | h
                  · exact hcv b (hF5 b (.inr (.inr (.inr ⟨_, List.mem_of_getElem? Hx5.out, h⟩))))
                  · exact .inr (by have := hC5.size; omega)
end Go.Proofs.Ytdcfnhggedeeiaa
