/-
  beat.Beats: Late.
-/
import Derived.Test.YtfpkhpdbfkclgaaBeatIn
import Derived.Test.YtfpkhpdbfkclgaaBeatKeys
import Derived.Test.YtfpkhpdbfkclgaaRiseWalk
namespace Go.Proofs.Ytfpkhpdbfkclgaa
open Go.RowKit
set_option linter.unusedVariables false
set_option linter.unusedSimpArgs false

/-- Whom Late tells. -/
def lateN (L : List Wt) (wt now : Int) : List Int := if mayB now then lateW L (now - wt) else []
def isLate (L : List Wt) (t z : Int) : Bool := match nW L z with | some p => decide (p.2 < t) | none => false
theorem late_eq {L S : List Int} {W : List Wt} {t : Int} (h : OkW W) (hr : RisesI S) (hm : ∀ x, x ∈ S ↔ (nW W x).isSome = true) : S.filter (isLate W t) = lateW W t := by
  refine rises_eq (List.Pairwise.filter _ hr) (lateW_rises _ _) fun z => ?_
  rw [List.mem_filter, lateW_mem h, hm]
  constructor
  · rintro ⟨h1, h2⟩
    cases hn : nW W z with
    | none => rw [hn] at h1; cases h1
    | some p =>
      unfold isLate at h2
      rw [hn] at h2
      exact ⟨p.1, p.2, rfl, by simpa using h2⟩
  · rintro ⟨l, a, h1, h2⟩
    unfold isLate
    rw [h1]
    exact ⟨rfl, by simpa using h2⟩
theorem lateW_len (L : List Wt) (t : Int) : (lateW L t).length ≤ L.length := by
  unfold lateW
  have : ∀ (l a : List Int), (l.foldl (fun a x => riseI x a) a).length ≤ a.length + l.length := by
    intro l
    induction l with
    | nil => intro a; simp
    | cons x l ih =>
      intro a
      have h1 := ih (riseI x a)
      have h2 : ∀ a : List Int, (riseI x a).length ≤ a.length + 1 := by
        intro a
        induction a with
        | nil => simp [riseI]
        | cons y a ih2 =>
          unfold riseI
          split
          · simp; exact ih2
          · split <;> simp
      have h3 := h2 a
      rw [List.foldl_cons, List.length_cons]
      omega
  have h := this ((L.filter fun x => x.inn && decide (x.at_ < t)).map (·.node)) []
  have h2 := List.length_filter_le (fun x : Wt => x.inn && decide (x.at_ < t)) L
  rw [List.length_map] at h
  unfold risen
  simp at h ⊢
  omega

theorem field_heard (l t : Int) (w : World) : (Instr.field 45 (.agg #[.int .i64 l, .int .i64 t]) 1).run Try.prog w = .ok (.int .i64 t) w := by kernel_rfl

def LatePost (w : World) (L : List Wt) (wt now : Int) (e : Ending) (w2 : World) : Prop :=
  ∃ v n, e = .returned v ∧ OwnR rkN w2 w.heap.size v n (iv (lateN L wt now)) ∧ Chg Non w w2

set_option maxRecDepth 100000 in
set_option maxHeartbeats 2000000 in
theorem btLate_any (w : World) (F : Nat → Prop) (g : Nat) (wt : Int) (L : List Wt) (M : Nat) (now : Int) (h : Bt w F g wt L M) (hok : OkW L) (hM : M ≤ 1000000000) (hL : L.length ≤ 1000000000) (hw1 : 1 ≤ wt) (hw2 : wt ≤ 9223372036854775807) :
    Calls Try.prog 8 #[.pointer (some ⟨g, 0, none⟩), .int .i64 now] w (LatePost w L wt now) := by
  obtain ⟨⟨m1, m2, n1, n2, hn1, hn2, hb, hm, hm2, hne, h1, h2, h3⟩, h5⟩ := h
  have hbox : Blk (w.alloc (.cells #[.int .i64 now] 3)) w.heap.size 3 #[.int .i64 now] := Blk.new _ _ _
  have hmy := may1_any _ w.heap.size now hbox
  have hC0 : Chg Non w (w.alloc (.cells #[.int .i64 now] 3)) := (Chg.refl _ _).alloc _
  have HC0 := Lib.hid hC0
  cases hmb : mayB now with
  | false =>
    rw [hmb] at hmy
    have Hmb := Lib.hid hmb
    clear hb hm hm2 hmb hC0 hbox
    go_enter Try.func8, Try.ntmps8
    go_wp2_with fail
    refine hmy.mono ?_
    rintro e w2 ⟨rfl, rfl⟩
    go_wp2_with fail
    go_ret
    exact ⟨_, 0, rfl, by unfold lateN; rw [Hmb.out]; exact OwnR.nil _ _ _, HC0.out⟩
  | true =>
    rw [hmb] at hmy
    have hnow := mayB_iff.1 hmb
    have Hmb := Lib.hid hmb
    have Hb := Lib.hid hb
    have Hm := Lib.hid hm
    have Hok := Lib.hid hok
    clear hb hm hm2 hmb hC0 hbox hok
    go_enter Try.func8, Try.ntmps8
    go_wp2_with fail
    refine hmy.mono ?_
    rintro e w2 ⟨rfl, hw2e⟩
    have hC2 := HC0.out
    rw [hw2e] at hC2
    clear hw2e hmy HC0
    have hb2 := Hb.out.non hC2
    have hm2 := Hm.out.non hC2
    obtain ⟨c0, c1, c2⟩ := cells3 hb2
    go_wp2_with fail
    refine (beatKeys w2 m1).mono ?_
    rintro e w3 ⟨rfl, rfl⟩
    go_wp2_with fail
    refine (beatSorted w2 m1 n1 (nF L) hm2 (by omega)).mono ?_
    rintro e w3 ⟨v, n, S, rfl, hn1e, hnS, hrise, hmem, hown, hC3⟩
    obtain ⟨A, c, rfl, hnc, hcm, hrS, hoS⟩ := hown.open_
    have hmemW : ∀ x, x ∈ S ↔ (nW L x).isSome = true := fun x => by rw [hmem]; unfold nF; simp
    have Hlate := Lib.hid (show S.filter (isLate L (now - wt)) = lateW L (now - wt) from late_eq (L := []) Hok.out hrise hmemW)
    have HmemW := Lib.hid hmemW
    have HnS := Lib.hid hnS
    have hb3 := hb2.non hC3
    have hm3 := hm2.non hC3
    have HrS : Hid (∀ wx, Chg Non w3 wx → Rds wx 1 A n (iv S)) := fun wx hx => hrS.non hx
    have hCC := hC2.non hC3
    have hs23 := hCC.size
    have hnb : n ≤ 1000000000 := by omega
    clear hn1e
    have i1 : IntKind.i64.wrap (now - wt) = now - wt := IntWalk.i64_in _ (by omega)
    clear hb2 hm2 c0 c1 c2 hrise hmem hmemW hown hrS hoS hC3 hC2 hnS
    go_wp2_with fail
    go_loopw [5, 19] (fun v i wr => ∃ (k m : Nat), k ≤ n ∧ m ≤ k ∧ i = .int .i64 k ∧ OwnR rkN wr w3.heap.size v m (iv ((S.take k).filter (isLate L (now - wt)))) ∧ Chg Non w3 wr) (fun _ i _ => n - (intOf i).toNat)
    case atStart => exact ⟨0, 0, Nat.zero_le _, Nat.le_refl _, rfl, OwnR.nil _ _ _, Chg.refl _ _⟩
    case round =>
      obtain ⟨k, m, hk, hmk, rfl, hout, hC⟩ := hrel
      by_cases hlt : k < n
      · obtain ⟨ad, x, rfl, hx, hcx⟩ := (HrS.out _ hC).getI hlt
        have hxs := (HmemW.out x).1 (List.mem_of_getElem? hx)
        have hst : S.take (k + 1) = S.take k ++ [x] := by rw [List.take_add_one, hx]; rfl
        cases hnx : nW L x with
        | none => rw [hnx] at hxs; cases hxs
        | some p =>
          obtain ⟨l, t⟩ := p
          have hbr := hb3.non hC
          have hmr := hm3.non hC
          obtain ⟨c0, c1, c2⟩ := cells3 hbr
          have k0 : ∀ wx, Chg Non wr wx → wx.cell? ⟨g, 0, none⟩ = some (.int .i64 wt) := fun wx h => h.cell c0 id
          have k1 : ∀ wx, Chg Non wr wx → wx.cell? ⟨g, 1, none⟩ = some (.map (some m1)) := fun wx h => h.cell c1 id
          have qx : ∀ wx, Chg Non wr wx → (Instr.lookup 40 (.map (some m1)) (.int .i64 x) false).run Try.prog wx = .ok (.agg #[.int .i64 l, .int .i64 t]) wx := fun wx h => by
            have hkx : nF L x = some (.agg #[.int .i64 l, .int .i64 t]) := by unfold nF; rw [hnx]; rfl
            have hmx := hmr.non h
            obtain ⟨D, hD, _, hD3⟩ := hmx
            have hhas : Maps.has D (.int .i64 x) = true := by
              have := (hD3 x).1
              rw [hkx] at this
              exact this
            have hwf : (Lit.int .i64 x).wf = true := by
              have hi := (intKeys_mem Try.underlying3 (intKey Try.underlying3).keyed hD).2 x |>.2 hhas
              exact Go.intKeys_wf hD Try.underlying3 x hi
            exact (hmr.non h).lookI Try.underlying40 (z := .agg #[.int .i64 0, .int .i64 0]) (by kernel_rfl) hwf (u := some (.agg #[.int .i64 l, .int .i64 t])) hkx
          have qf : ∀ wx : World, (Instr.field 45 (.agg #[.int .i64 l, .int .i64 t]) 1).run Try.prog wx = .ok (.int .i64 t) wx := fun wx => field_heard l t wx
          have hs3 := hC.size
          by_cases ht : t < now - wt
          · have hf : Hid ((S.take (k + 1)).filter (isLate L (now - wt)) = (S.take k).filter (isLate L (now - wt)) ++ [x]) := by
              show _ = _
              rw [hst, List.filter_append]
              congr 1
              have : isLate L (now - wt) x = true := by unfold isLate; rw [hnx]; exact decide_eq_true ht
              simp [this]
            clear hx hst hnx hxs c0 c1 c2 hbr hmr
            go_wp2_with fail
            refine st_region 8 Non [] [] (fun _ _ _ _ => True) (fun _ _ _ _ => True) (fun _ _ _ => True) (fun _ => True) (by kernel_rfl) (by kernel_rfl) (fun _ h => h.elim) trivial (fun _ _ _ => trivial) ?_
            repeat (first | (refine st_pass (by rfl) ?_; simp only [Act.put, List.setIfInBounds_toArray, List.set_cons_succ, List.set_cons_zero]) | (refine st_plain (Non) (wr) rfl rfl (f := ?_) (by rfl) rfl rfl (fun w hC hG => ?_) ?_; rotate_left; (clear hG; first | (go_simp; done) | (go_simp; with_reducible rfl) | (simp [*, go_sem, ↓IntWalk.iteOmega]; done) | (simp [*, go_sem, ↓IntWalk.iteOmega]; with_reducible rfl)); simp only [Act.put, List.setIfInBounds_toArray, List.set_cons_succ, List.set_cons_zero]))
            refine st_end Non wr rfl rfl (fun w5 hC5 _ hG => ?_)
            clear hG k0 k1 qx qf
            have hout5 := hout.non hC5
            have hC6 := hC.non hC5
            have hs5 := hC6.size
            go_wp2_with (at_builtin; refine appR1 (K := rkN) rfl (.tmp 37) (.tmp 39) rfl hout5 rfl (cs := #[.int .i64 x]) rfl rfl (iv_one' [x]) ?_ ?_ ?_; (next => omega); (next => exact hs5); intro v7 w7 o7 c7 _)
            have hC7 := OwnR.chgApp hout5 hC6 (Nat.le_refl _) c7
            rw [show iv ((S.take k).filter (isLate L (now - wt))) ++ (#[.int .i64 x] : Array Value).toList = iv ((S.take (k + 1)).filter (isLate L (now - wt))) from by rw [hf.out]; simp [iv]] at o7
            clear hout hout5 hC hC5 hC6 c7
            go_roundw
            case rel => exact ⟨k + 1, m + 1, by omega, by omega, by go_num, o7, hC7⟩
            case measure => simp [intOf]; omega
          · have hf : (S.take (k + 1)).filter (isLate L (now - wt)) = (S.take k).filter (isLate L (now - wt)) := by
              rw [hst, List.filter_append]
              have : isLate L (now - wt) x = false := by unfold isLate; rw [hnx]; exact decide_eq_false ht
              simp [this]
            rw [← hf] at hout
            clear hx hst hnx hxs c0 c1 c2 hbr hmr hf
            go_wp2_with fail
            refine st_region 8 Non [] [] (fun _ _ _ _ => True) (fun _ _ _ _ => True) (fun _ _ _ => True) (fun _ => True) (by kernel_rfl) (by kernel_rfl) (fun _ h => h.elim) trivial (fun _ _ _ => trivial) ?_
            repeat (first | (refine st_pass (by rfl) ?_; simp only [Act.put, List.setIfInBounds_toArray, List.set_cons_succ, List.set_cons_zero]) | (refine st_plain (Non) (wr) rfl rfl (f := ?_) (by rfl) rfl rfl (fun w hC hG => ?_) ?_; rotate_left; (clear hG; first | (go_simp; done) | (go_simp; with_reducible rfl) | (simp [*, go_sem, ↓IntWalk.iteOmega]; done) | (simp [*, go_sem, ↓IntWalk.iteOmega]; with_reducible rfl)); simp only [Act.put, List.setIfInBounds_toArray, List.set_cons_succ, List.set_cons_zero]))
            refine st_end Non wr rfl rfl (fun w5 hC5 _ hG => ?_)
            clear hG k0 k1 qx qf
            have hout5 := hout.non hC5
            have hC6 := hC.non hC5
            go_wp2_with fail
            go_roundw
            case rel => exact ⟨k + 1, m, by omega, by omega, by go_num, hout5, hC6⟩
            case measure => simp [intOf]; omega
      · have hst : S.take k = S := List.take_of_length_le (by have := HnS.out; omega)
        rw [hst, Hlate.out] at hout
        clear hst
        go_wp2_with fail
        go_ret
        exact ⟨_, m, rfl, by unfold lateN; rw [Hmb.out, if_pos rfl]; exact hout.mono hs23, hCC.non hC⟩
end Go.Proofs.Ytfpkhpdbfkclgaa
