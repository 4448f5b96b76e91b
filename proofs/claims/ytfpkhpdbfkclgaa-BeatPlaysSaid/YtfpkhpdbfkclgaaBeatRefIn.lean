/-
  gleanerref14.Beats: Heard, Out, In.
-/
import Derived.Test.YtfpkhpdbfkclgaaBeatRef
namespace Go.Proofs.Ytfpkhpdbfkclgaa
open Go.RowKit
set_option linter.unusedVariables false
set_option linter.unusedSimpArgs false

theorem set_same {α : Type} {L : List α} {k : Nat} {x : α} (h : L[k]? = some x) : L.set k x = L := by
  apply List.ext_getElem?
  intro j
  rw [List.getElem?_set]
  by_cases e : k = j
  · subst e
    rw [if_pos rfl, h]
    simp [(List.getElem?_eq_some_iff.1 h).1]
  · rw [if_neg e]

def RHeardPost (w : World) (F : Nat → Prop) (g : Nat) (wt : Int) (L : List Wt) (a life now : Int) (e : Ending) (w2 : World) : Prop :=
  e = .returned (.bool (heardB L a life now)) ∧ Rb w2 F g wt (if heardB L a life now then hearW L a now else L) ∧ Chg F w w2

set_option maxRecDepth 100000 in
set_option maxHeartbeats 1000000 in
theorem rbHeard_any (w : World) (F : Nat → Prop) (g : Nat) (wt : Int) (L : List Wt) (a life now : Int) (h : Rb w F g wt L) (hok : OkW L) :
    Calls Try.prog 11 #[.pointer (some ⟨g, 0, none⟩), .int .i64 a, .int .i64 life, .int .i64 now] w (RHeardPost w F g wt L a life now) := by
  have hf := find_any w F g wt L a h
  have hwn := when_any now w
  have hstay : heardB L a life now = false → RHeardPost w F g wt L a life now (.returned (.bool false)) w := fun he => ⟨by rw [he], by rw [he, if_neg Bool.false_ne_true]; exact h, Chg.refl _ _⟩
  have Hstay := Lib.hid hstay
  obtain ⟨⟨A, n, c, hn, h1, h2, hb, ho, h3, h4, h5⟩, h6⟩ := h
  have c1 : w.cell? ⟨g, 1, none⟩ = some (.slice A n c) := hb.cell 1
  have hg := hb.lt
  unfold maxLen at h2
  clear hstay
  cases hm : mayB now with
  | false =>
    rw [hm] at hwn
    have He : Hid (heardB L a life now = false) := by
      show _ = _
      unfold heardB
      split
      · rw [hm]; simp
      · rfl
    clear hm hb ho
    go_enter Try.func11, Try.ntmps11
    go_wp2_with fail
    refine hf.mono ?_
    rintro e w2 ⟨rfl, rfl⟩
    go_wp2_with fail
    refine hwn.mono ?_
    rintro e w2 ⟨rfl, rfl⟩
    go_wp2_with fail
    go_ret
    exact Hstay.out He.out
  | true =>
    rw [hm] at hwn
    cases hk : fW L a with
    | none =>
      have He : Hid (heardB L a life now = false) := by show _ = _; unfold heardB nW; rw [fW_none hk]; rfl
      rw [iW_none hk] at hf
      clear hm hb ho hk
      go_enter Try.func11, Try.ntmps11
      go_wp2_with fail
      refine hf.mono ?_
      rintro e w2 ⟨rfl, rfl⟩
      go_wp2_with fail
      refine hwn.mono ?_
      rintro e w2 ⟨rfl, rfl⟩
      go_wp2_with fail
      go_ret
      exact Hstay.out He.out
    | some k =>
      obtain ⟨x, hx, hxa, hgx⟩ := fW_some hk
      rw [iW_some hk] at hf
      have hkn : k < n := by have := hn.out; have := (List.getElem?_eq_some_iff.1 hx).1; omega
      obtain ⟨gb, cc, hv, _⟩ := ho.form (by omega)
      injection hv with e1 e2 e3
      subst e1 e3
      have q1 : w.cell? ⟨gb, k * 5 + 1, none⟩ = some (.int .i64 x.life) := ho.cellN cellW_len hx (j := 1) rfl
      have q2 : w.cell? ⟨gb, k * 5 + 2, none⟩ = some (.int .i64 x.at_) := ho.cellN cellW_len hx (j := 2) rfl
      have q4 : w.cell? ⟨gb, k * 5 + 4, none⟩ = some (.bool x.inn) := ho.cellN cellW_len hx (j := 4) rfl
      have f2 := ho.frozen (k * 5 + 2)
      have hgl := World.block_lt_of_cell? w _ q1
      have hnx := nW_of hgx
      have hlf := hok.lf x (List.mem_of_getElem? hx)
      cases hi : x.inn with
      | false =>
        rw [hi] at hnx q4
        have He : Hid (heardB L a life now = false) := by show _ = _; unfold heardB; rw [show nW L a = none from hnx]
        clear hm hk hb ho hx hgx hnx hi hlf
        go_enter Try.func11, Try.ntmps11
        go_wp2_with fail
        refine hf.mono ?_
        rintro e w2 ⟨rfl, rfl⟩
        go_wp2_with fail
        refine hwn.mono ?_
        rintro e w2 ⟨rfl, rfl⟩
        go_wp2_with fail
        go_ret
        exact Hstay.out He.out
      | true =>
        rw [hi] at hnx q4
        have hnx : nW L a = some (x.life, x.at_) := hnx
        by_cases hll : x.life = life
        · have He : Hid (heardB L a life now = true) := by show _ = _; unfold heardB; rw [hnx]; dsimp only; rw [decide_eq_true hll, hm, ← hll, hlf.1]; rfl
          have t1 : (x.life != life) = false := by rw [hll]; exact bne_self_eq_false _
          have Hx := Lib.hid hx
          have Hpw : Hid (hearW L a now = L.set k { x with at_ := later x.at_ now }) := putW_some hk hgx
          have Ho := Lib.hid ho
          have Hb := Lib.hid hb
          clear hm hk hb ho hx hgx hnx hi hlf
          by_cases hs : x.at_ < now
          · have hst := Ho.out.putN (f := cellW) cellW_len { x with at_ := now } Hx.out (j := 2) (u := .int .i64 now) (by decide) rfl
            have hb2 := Hb.out.far (p := ⟨gb, k * 5 + 2, none⟩) (fun e => h5 (by show some gb = some g; rw [e])) (.int .i64 now)
            have hfin : Rb (w.setCell ⟨gb, k * 5 + 2, none⟩ (.int .i64 now)) F g wt (hearW L a now) ∧ Chg F w (w.setCell ⟨gb, k * 5 + 2, none⟩ (.int .i64 now)) := by
              have hC := (Chg.refl F w).setCell (p := ⟨gb, k * 5 + 2, none⟩) (.inl (h4 gb rfl)) (.int .i64 now)
              refine ⟨⟨⟨some ⟨gb, 0, none⟩, n, c, ?_, h1, by unfold maxLen; omega, hb2, ?_, h3, h4, h5⟩, fun b hb => Nat.lt_of_lt_of_le (h6 b hb) hC.size⟩, hC⟩
              · show n = _
                rw [Hpw.out, List.length_set]; exact hn.out
              · rw [Hpw.out, show later x.at_ now = now from if_pos hs]
                exact hst
            have Hfin := Lib.hid hfin
            clear hfin hst hb2
            go_enter Try.func11, Try.ntmps11
            go_wp2_with fail
            refine hf.mono ?_
            rintro e w2 ⟨rfl, rfl⟩
            go_wp2_with fail
            refine hwn.mono ?_
            rintro e w2 ⟨rfl, rfl⟩
            go_wp2_with fail
            go_ret
            exact ⟨by rw [He.out]; rfl, by rw [He.out, if_pos rfl]; exact Hfin.out.1, Hfin.out.2⟩
          · have hfin : Rb w F g wt (hearW L a now) := by
              have e : hearW L a now = L := by
                rw [Hpw.out, show later x.at_ now = x.at_ from if_neg hs]
                exact set_same Hx.out
              rw [e]
              exact ⟨⟨some ⟨gb, 0, none⟩, n, c, hn, h1, by unfold maxLen; omega, Hb.out, Ho.out, h3, h4, h5⟩, h6⟩
            have Hfin := Lib.hid hfin
            have hle : now ≤ x.at_ := by omega
            clear hfin hs
            go_enter Try.func11, Try.ntmps11
            go_wp2_with fail
            refine hf.mono ?_
            rintro e w2 ⟨rfl, rfl⟩
            go_wp2_with fail
            refine hwn.mono ?_
            rintro e w2 ⟨rfl, rfl⟩
            go_wp2_with fail
            go_ret
            exact ⟨by rw [He.out]; rfl, by rw [He.out, if_pos rfl]; exact Hfin.out, Chg.refl _ _⟩
        · have He : Hid (heardB L a life now = false) := by show _ = _; unfold heardB; rw [hnx]; dsimp only; rw [decide_eq_false hll]; rfl
          have t1 : (x.life != life) = true := bne_iff_ne.2 hll
          clear hm hk hb ho hx hgx hnx hi hlf hll
          go_enter Try.func11, Try.ntmps11
          go_wp2_with fail
          refine hf.mono ?_
          rintro e w2 ⟨rfl, rfl⟩
          go_wp2_with fail
          refine hwn.mono ?_
          rintro e w2 ⟨rfl, rfl⟩
          go_wp2_with fail
          go_ret
          exact Hstay.out He.out

set_option maxRecDepth 100000 in
set_option maxHeartbeats 1000000 in
theorem rbOut_any (w : World) (F : Nat → Prop) (g : Nat) (wt : Int) (L : List Wt) (A : Option Addr) (n c : Nat) (l : List Int) (h : Rb w F g wt L) (hr : Rds w 1 A n (iv l)) (hn : n ≤ 1000000) (hA : 0 < n → ∀ ad, A = some ad → ¬ F ad.block) :
    Calls Try.prog 13 #[.pointer (some ⟨g, 0, none⟩), .slice A n c] w fun e w2 => e = .returned (.tuple #[]) ∧ Rb w2 F g wt (outsW L l) ∧ Chg F w w2 := by
  have Hr := Lib.hid hr
  have Hll := Lib.hid hr.lenMap
  clear hr
  go_enter Try.func13, Try.ntmps13
  go_wp2_with fail
  go_loopw [4] (fun i wr => ∃ k : Nat, k ≤ n ∧ i = .int .i64 k ∧ Rb wr F g wt (outsW L (l.take k)) ∧ Chg F w wr) (fun i _ => n - (intOf i).toNat)
  case atStart => exact ⟨0, Nat.zero_le _, rfl, h, Chg.refl _ _⟩
  case round =>
    clear h
    obtain ⟨k, hk, rfl, hR, hC⟩ := hrel
    by_cases hlt : k < n
    · obtain ⟨ad, x, rfl, hx, hcx⟩ := Hr.out.getI hlt
      have a0 := hC.cell hcx (fun e => hA (by omega) ad rfl (by rw [block_add] at e; exact e))
      have hf := find_any wr F g wt _ x hR
      have hst : outsW L (l.take (k + 1)) = outW (outsW L (l.take k)) x := by rw [List.take_add_one, hx]; exact outs_snoc _ _ _
      generalize hLk : outsW L (l.take k) = Lk at hR hf hst
      clear hx hcx hLk
      cases hi : fW Lk x with
      | none =>
        have e : outsW L (l.take (k + 1)) = Lk := by rw [hst, outW, putW_none hi]
        rw [iW_none hi] at hf
        rw [← e] at hR
        clear hi e hst
        go_wp2_with fail
        refine hf.mono ?_
        rintro e w2 ⟨rfl, rfl⟩
        go_wp2_with fail
        go_roundw
        case rel => exact ⟨k + 1, by omega, by go_num, hR, hC⟩
        case measure => simp [intOf]; omega
      | some j =>
        obtain ⟨y, hy, hya, hgy⟩ := fW_some hi
        have e : outsW L (l.take (k + 1)) = Lk.set j { y with inn := false } := by rw [hst, outW, putW_some hi hgy]
        rw [iW_some hi] at hf
        obtain ⟨⟨A2, n2, c2, hn2, h1, h2, hb, ho, h3, h4, h5⟩, h6⟩ := hR
        have hjn : j < n2 := by have := hn2.out; have := (List.getElem?_eq_some_iff.1 hy).1; omega
        obtain ⟨gb, cc, hv, _⟩ := ho.form (by omega)
        injection hv with e1 e2 e3
        subst e1 e3
        have c1 : wr.cell? ⟨g, 1, none⟩ = some (.slice (some ⟨gb, 0, none⟩) n2 c2) := hb.cell 1
        have hg := hb.lt
        have q4 : wr.cell? ⟨gb, j * 5 + 4, none⟩ = some (.bool y.inn) := ho.cellN cellW_len hy (j := 4) rfl
        have f4 := ho.frozen (j * 5 + 4)
        have hgl := World.block_lt_of_cell? wr _ q4
        have hst2 := ho.putN (f := cellW) cellW_len { y with inn := false } hy (j := 4) (u := .bool false) (by decide) rfl
        have hb2 := hb.far (p := ⟨gb, j * 5 + 4, none⟩) (fun e => h5 (by show some gb = some g; rw [e])) (.bool false)
        have hC2 := hC.trans ((Chg.refl F wr).setCell (p := ⟨gb, j * 5 + 4, none⟩) (.inl (h4 gb rfl)) (.bool false))
        have hR2 : Rb (wr.setCell ⟨gb, j * 5 + 4, none⟩ (.bool false)) F g wt (outsW L (l.take (k + 1))) := by
          refine ⟨⟨some ⟨gb, 0, none⟩, n2, c2, ?_, h1, h2, hb2, ?_, h3, h4, h5⟩, fun b hb => by have := h6 b hb; simpa [World.setCell] using this⟩
          · show n2 = _
            rw [e, List.length_set]; exact hn2.out
          · rw [e]; exact hst2
        have HR2 := Lib.hid hR2
        unfold maxLen at h2
        clear hR2 hst2 hb2 hi hy hgy e hst hb ho
        go_wp2_with fail
        refine hf.mono ?_
        rintro e w2 ⟨rfl, rfl⟩
        go_wp2_with fail
        go_roundw
        case rel => exact ⟨k + 1, by omega, by go_num, HR2.out, hC2⟩
        case measure => simp [intOf]; omega
    · have hst : l.take k = l := List.take_of_length_le (by have := Hll.out; omega)
      rw [hst] at hR
      clear hst
      go_wp2_with fail
      go_end0
      exact ⟨rfl, hR, hC⟩
end Go.Proofs.Ytfpkhpdbfkclgaa
