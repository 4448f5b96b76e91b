/-
  pack.Cursor: what the bytes are read as.
-/
import Derived.Test.YtclpmadecibofaaClone
import Derived.Test.YtclpmadecibofaaVarint
namespace Go.Proofs.Ytclpmadecibofaa
open Go.RowKit

/-- A cursor: the block g holds the bytes R that are left, and whether it is bad. -/
def CurP (Dp : Nat → Prop) (w : World) (g : Nat) (R : List UInt8) (bad : Bool) : Prop :=
  ∃ A n c, Blk w g 86 #[.slice A n c, .bool bad] ∧ Rds w 1 A n (bv R) ∧ n ≤ c ∧ c ≤ maxLen ∧ (∀ ad, A = some ad → ad.block ≠ g) ∧ (0 < n → ∀ ad, A = some ad → Dp ad.block)
abbrev Cur := CurP (fun _ => True)
variable {Dp : Nat → Prop}

theorem CurP.chg {S : Nat → Prop} {w w2 : World} {g : Nat} {R : List UInt8} {bad : Bool} (h : CurP Dp w g R bad) (hc : Chg S w w2) (hg : ¬ S g) (hS : ∀ b, S b → b = g ∨ w.heap.size ≤ b) : CurP Dp w2 g R bad := by
  obtain ⟨A, n, c, hb, hr, h1, h2, h3, h9⟩ := h
  refine ⟨A, n, c, hb.chg hc hg, ?_, h1, h2, h3, h9⟩
  refine ⟨hr.1, fun h0 => ?_⟩
  obtain ⟨ad, e, hx⟩ := hr.2 h0
  refine ⟨ad, e, fun j u hu => hc.cell (hx j u hu) fun hs => ?_⟩
  have hlt := World.block_lt_of_cell? w _ (hx j u hu)
  rw [block_add] at hs hlt
  rcases hS _ hs with e2 | e2
  · exact h3 ad e e2
  · omega
theorem CurP.non {w w2 : World} {g : Nat} {R : List UInt8} {bad : Bool} (h : CurP Dp w g R bad) (hc : Chg Non w w2) : CurP Dp w2 g R bad := h.chg hc id fun _ e => e.elim

theorem CurP.lt {w : World} {g : Nat} {R : List UInt8} {bad : Bool} (h : CurP Dp w g R bad) : g < w.heap.size := by
  obtain ⟨A, n, c, hb, _⟩ := h
  exact hb.lt
/-- A cursor stays when a younger block alone changes. -/
theorem CurP.young {w w2 : World} {g g2 : Nat} {R : List UInt8} {bad : Bool} (h : CurP Dp w g R bad) (hc : Chg (fun b => b = g2) w w2) (hg : w.heap.size ≤ g2) : CurP Dp w2 g R bad :=
  h.chg hc (by have := h.lt; omega) fun b e => .inr (by omega)

theorem new_fresh (A : Option Addr) (n c : Nat) (L : List UInt8) (w : World) (hr : Rds w 1 A n (bv L)) (hn : L.length ≤ 140737488351232) :
    Calls Try.prog 30 #[.slice A n c] w fun e w2 => ∃ g, e = .returned (.pointer (some ⟨g, 0, none⟩)) ∧ w.heap.size ≤ g ∧ CurP (fun b => w.heap.size ≤ b) w2 g L false ∧ Chg Non w w2 := by
  go_enter Try.func30, Try.ntmps30
  go_wp2_with fail
  refine (clone_any _ _ _ _ _ hr hn).mono ?_
  rintro e w1 ⟨v, rfl, hown, hc⟩
  obtain ⟨A2, n2, c2, rfl, hn2, h1, h2, hrd⟩ := hown.open_
  have hlt : ∀ ad, A2 = some ad → ad.block < w1.heap.size := by
    rintro ad rfl
    exact (World.ownsRow.lt hown ad.block rfl).2
  go_wp2_with fail
  go_ret
  refine ⟨w1.heap.size, rfl, hc.size, ⟨A2, n2, c2, Blk.new _ _ _, hrd.non ((Chg.refl _ _).alloc _), h1, h2, fun ad e => ?_, fun _ ad e => ?_⟩, hc.alloc _⟩
  · have := hlt ad e
    omega
  · subst e
    exact (World.ownsRow.lt hown ad.block rfl).1
theorem CurP.plain {w : World} {g : Nat} {R : List UInt8} {bad : Bool} (h : CurP Dp w g R bad) : Cur w g R bad := by
  obtain ⟨A, n, c, hb, hr, h1, h2, h3, h9⟩ := h
  exact ⟨A, n, c, hb, hr, h1, h2, h3, fun _ _ _ => trivial⟩
/-- What a cursor reads lies in a block that is there. -/
theorem CurP.old {w : World} {g : Nat} {R : List UInt8} {bad : Bool} (h : CurP Dp w g R bad) : CurP (fun b => Dp b ∧ b < w.heap.size) w g R bad := by
  obtain ⟨A, n, c, hb, hr, h1, h2, h3, h9⟩ := h
  refine ⟨A, n, c, hb, hr, h1, h2, h3, fun h0 ad e => ⟨h9 h0 ad e, ?_⟩⟩
  obtain ⟨a2, u, e2, _, hc⟩ := hr.at_ h0
  rw [e] at e2
  cases e2
  have := World.block_lt_of_cell? _ _ hc
  rwa [block_add] at this
theorem CurP.mono {Dq : Nat → Prop} {w : World} {g : Nat} {R : List UInt8} {bad : Bool} (h : CurP Dp w g R bad) (hd : ∀ b, Dp b → Dq b) : CurP Dq w g R bad := by
  obtain ⟨A, n, c, hb, hr, h1, h2, h3, h9⟩ := h
  exact ⟨A, n, c, hb, hr, h1, h2, h3, fun h0 ad e => hd _ (h9 h0 ad e)⟩
/-- A cursor stays when other blocks than its own two change. -/
theorem CurP.other {S : Nat → Prop} {w w2 : World} {g : Nat} {R : List UInt8} {bad : Bool} (h : CurP Dp w g R bad) (hc : Chg S w w2) (hg : ¬ S g) (hd : ∀ b, Dp b → ¬ S b) : CurP Dp w2 g R bad := by
  obtain ⟨A, n, c, hb, hr, h1, h2, h3, h9⟩ := h
  refine ⟨A, n, c, hb.chg hc hg, ⟨hr.1, fun h0 => ?_⟩, h1, h2, h3, h9⟩
  obtain ⟨ad, e, hx⟩ := hr.2 h0
  exact ⟨ad, e, fun j u hu => hc.cell (hx j u hu) (by rw [block_add]; exact hd _ (h9 h0 ad e))⟩

theorem new_any (A : Option Addr) (n c : Nat) (L : List UInt8) (w : World) (hr : Rds w 1 A n (bv L)) (hn : L.length ≤ 140737488351232) :
    Calls Try.prog 30 #[.slice A n c] w fun e w2 => ∃ g, e = .returned (.pointer (some ⟨g, 0, none⟩)) ∧ w.heap.size ≤ g ∧ Cur w2 g L false ∧ Chg Non w w2 :=
  (new_fresh A n c L w hr hn).mono fun _ _ ⟨g, h1, h2, h3, h4⟩ => ⟨g, h1, h2, h3.plain, h4⟩

/-- What 'number' does. -/
def NumPost (Dp : Nat → Prop) (w : World) (g : Nat) (R : List UInt8) (bad : Bool) (e : Ending) (w2 : World) : Prop :=
  (dnum 0 0 R = none → e = .returned (.tuple #[.int .u64 0, .bool false]) ∧ w = w2) ∧
  ∀ u R2, dnum 0 0 R = some (u, R2) → e = .returned (.tuple #[.int .u64 u, .bool true]) ∧ CurP Dp w2 g R2 bad ∧ Chg (fun b => b = g) w w2

set_option maxRecDepth 100000 in
set_option maxHeartbeats 1000000 in
theorem number_any (g : Nat) (R : List UInt8) (bad : Bool) (w : World) (hc : CurP Dp w g R bad) :
    Calls Try.prog 46 #[.pointer (some ⟨g, 0, none⟩)] w (NumPost Dp w g R bad) := by
  obtain ⟨A, n, c, hb, hr, h1, h2, h3, h9⟩ := hc
  have hnl : n = R.length := by have := hr.1; rw [bv_len] at this; omega
  have hn64 : n ≤ 9223372036854775807 := by unfold maxLen at h2; omega
  have c0 := hb.cell 0
  have c1 := hb.cell 1
  have f0 := hb.frozen 0
  simp at c0 c1
  have Hnl := Lib.hid hnl; clear hnl
  go_enter Try.func46, Try.ntmps46
  go_wp2_with fail
  go_loop [4, 13] (fun u i => ∃ (k q : Nat), u = .int .u64 q ∧ i = .int .i64 k ∧ k ≤ n ∧ k ≤ 9 ∧ q < 128 ^ k ∧ Hid (dnum 0 0 R = dnum k q (R.drop k))) (fun _ i => n - (intOf i).toNat)
  case atStart => exact ⟨0, 0, rfl, rfl, by omega, by omega, by omega, rfl⟩
  case round =>
    obtain ⟨k, q, rfl, rfl, hkn, hk9, hq, Hd⟩ := hrel
    by_cases hlt : k < n
    · obtain ⟨ad, v, rfl, hv, hcell⟩ := hr.at_ hlt
      rw [bv_get] at hv
      obtain ⟨x, hx, rfl⟩ : ∃ x, R[k]? = some x ∧ v = .int .u8 x.toNat := by
        cases h : R[k]? with
        | none => simp [h] at hv
        | some x => simp [h] at hv; exact ⟨x, rfl, hv.symm⟩
      have hx8 := x.toNat_lt
      have Hx := Lib.hid hx; clear hx hv
      have Hq := Lib.hid hq; clear hq
      have qs := fun w => run_slice_lo (P := Try.prog) Try.underlying34 1 (by kernel_rfl) (by kernel_rfl) (kl := .i64) (i := (k : Int) + 1) (k := k + 1) (n := n) (by omega) (by omega) (some ad) c w
      have hdrop : R.drop k = x :: R.drop (k + 1) := by
        have hl := (List.getElem?_eq_some_iff.1 Hx.out)
        rw [List.drop_eq_getElem_cons hl.1, hl.2]
      have Hdrop := Lib.hid hdrop; clear hdrop
      have hgad := h3 ad rfl
      have hgad2 := h9 (by omega) ad rfl
      have hcur : ∀ w2, Blk w2 g 86 #[.slice (cutA (some ad) c (k + 1) 1) (n - (k + 1)) (c - (k + 1)), .bool bad] → Chg (fun b => b = g) w w2 → CurP Dp w2 g (R.drop (k + 1)) bad := by
        intro w2 hb2 hc2
        refine ⟨_, _, _, hb2, ?_, by omega, by omega, fun a2 e => ?_, fun _ a2 e => ?_⟩
        · have := (hr.cutA (c := c) (show k + 1 ≤ n by omega) h1).chg hc2 (fun a2 e => by
            obtain ⟨a0, e1, e2⟩ := cutA_block e
            injection e1 with e1
            subst e1
            rw [e2]; exact hgad)
          rw [show (bv R).drop ((k + 1) * 1) = bv (R.drop (k + 1)) by simp [bv]] at this
          exact this
        · obtain ⟨a0, e1, e2⟩ := cutA_block e
          injection e1 with e1
          subst e1
          rw [e2]; exact hgad
        · obtain ⟨a0, e1, e2⟩ := cutA_block e
          injection e1 with e1
          subst e1
          rw [e2]; exact hgad2
      have Hcur := Lib.hid hcur; clear hcur
      by_cases hbad : (k = 9 ∧ 1 < x.toNat) ∨ (x.toNat = 0 ∧ 0 < k)
      · have hnone := dnum_bad (u := q) (R := R.drop (k + 1)) hbad
        have Hnone := Lib.hid hnone; clear hnone
        have hfin : NumPost Dp w g R bad (.returned (.tuple #[.int .u64 0, .bool false])) w :=
          ⟨fun _ => ⟨rfl, rfl⟩, fun u R2 h => by rw [Hd.out, Hdrop.out, Hnone.out] at h; cases h⟩
        have Hfin := Lib.hid hfin; clear hfin
        rcases hbad with ⟨ha, hb2⟩ | ⟨ha, hb2⟩
        · have e9 : 9 ≤ k := by omega
          clear ha
          go_wp2_with fail
          go_ret2
          exact Hfin.out
        · have e0 : x.toNat ≤ 0 := by omega
          clear ha
          rcases Nat.lt_or_ge k 9 with hk | hk
          all_goals
            go_wp2_with fail
            go_ret2
            exact Hfin.out
      · have hb1 : k = 9 → x.toNat ≤ 1 := by omega
        have hb0 : x.toNat = 0 → k = 0 := by omega
        clear hbad
        have hbits := bits_step Hq.out (by omega) hx8 (fun h => by have := hb1 h; omega)
        have Hbits := Lib.hid hbits; clear hbits
        by_cases hx1 : x.toNat < 128
        · have hdn := dnum_end (u := q) (R := R.drop (k + 1)) hk9 hb1 hb0 hx1
          have Hdn := Lib.hid hdn; clear hdn
          have Hb0 := Lib.hid hb0; clear hb0
          have Hb1 := Lib.hid hb1; clear hb1
          have hfin : ∀ w2, w2 = w.setCell ⟨g, 0, none⟩ (.slice (cutA (some ad) c (k + 1) 1) (n - (k + 1)) (c - (k + 1))) → NumPost Dp w g R bad (.returned (.tuple #[.int .u64 ((q + x.toNat % 128 * 128 ^ k : Nat) : Int), .bool true])) w2 := by
            rintro w2 rfl
            refine ⟨fun h => (by rw [Hd.out, Hdrop.out, Hdn.out] at h; cases h), fun u R2 h => ?_⟩
            rw [Hd.out, Hdrop.out, Hdn.out] at h
            injection h with h
            injection h with h h5
            subst h h5
            exact ⟨rfl, Hcur.out _ (hb.put 0 _) (Chg.setCell (Chg.refl (fun b => b = g) w) (p := ⟨g, 0, none⟩) (.inl rfl) _), Chg.setCell (Chg.refl (fun b => b = g) w) (p := ⟨g, 0, none⟩) (.inl rfl) _⟩
          have Hfin := Lib.hid hfin; clear hfin
          by_cases hx0 : x.toNat = 0
          · obtain rfl : k = 0 := by have := Hb0.out; omega
            obtain rfl : x = 0 := UInt8.toNat_inj.1 hx0
            obtain rfl : q = 0 := by have := Hq.out; omega
            have hcell0 : w.cell? ad = some (.int .u8 0) := hcell
            have qs0 := fun w => run_slice_lo (P := Try.prog) Try.underlying34 1 (by kernel_rfl) (by kernel_rfl) (kl := .i64) (i := 1) (k := 1) (n := n) (by omega) (by omega) (some ad) c w
            clear hcell qs
            go_wp2_with fail
            go_ret2
            exact Hfin.out _ rfl
          · have hx00 : 1 ≤ x.toNat := by omega
            clear hx0
            rcases Nat.lt_or_ge k 9 with h9 | h9
            · go_wp2_with fail
              go_ret2
              rw [Hbits.out]
              exact Hfin.out _ rfl
            · have hx9 : x.toNat ≤ 1 := by have := Hb1.out; omega
              obtain rfl : k = 9 := by omega
              have qs9 := fun w => run_slice_lo (P := Try.prog) Try.underlying34 1 (by kernel_rfl) (by kernel_rfl) (kl := .i64) (i := 10) (k := 10) (n := n) (by omega) (by omega) (some ad) c w
              have hcell9 : w.cell? ⟨ad.block, ad.off + 9, none⟩ = some (.int .u8 x.toNat) := hcell
              have hbits9 : bits .or .u64 (q : Int) (IntKind.u64.wrap (IntKind.u64.wrap (bits .and .u8 (x.toNat : Int) 127) * 9223372036854775808)) = ((q + x.toNat % 128 * 128 ^ 9 : Nat) : Int) := Hbits.out
              have Hbits9 := Lib.hid hbits9; clear hbits9
              clear qs hcell h9
              go_wp2_with fail
              go_ret2
              rw [Hbits9.out]
              exact Hfin.out _ rfl
        · have hk8 : k < 9 := by have := hb1; omega
          have hdn := dnum_on (u := q) (R := R.drop (k + 1)) hk8 hx1
          have hfin : Hid (dnum 0 0 R = dnum (k + 1) (q + x.toNat % 128 * 128 ^ k) (R.drop (k + 1))) := by
            have h : dnum 0 0 R = _ := Hd.out
            rw [Hdrop.out, hdn] at h
            exact h
          have hq2 := Lib.hid (dnum_lt (x := x.toNat) Hq.out)
          clear hdn hb0 hb1
          go_wp2_with fail
          go_round
          case rel => exact ⟨k + 1, _, by rw [Hbits.out], by go_num, by omega, by omega, hq2.out, hfin⟩
          case measure => simp [intOf]; omega
    · have hkn : k = n := by omega
      subst hkn
      have hfin : NumPost Dp w g R bad (.returned (.tuple #[.int .u64 0, .bool false])) w :=
        ⟨fun _ => ⟨rfl, rfl⟩, fun u R2 h => by rw [Hd.out, List.drop_of_length_le (by have := Hnl.out; omega)] at h; cases h⟩
      have Hfin := Lib.hid hfin; clear hfin
      go_wp2_with fail
      go_ret2
      exact Hfin.out
end Go.Proofs.Ytclpmadecibofaa
