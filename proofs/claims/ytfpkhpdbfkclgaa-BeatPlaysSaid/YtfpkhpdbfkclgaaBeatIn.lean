/-
  beat.Beats: Heard, In.
-/
import Derived.Test.YtfpkhpdbfkclgaaBeat
namespace Go.Proofs.Ytfpkhpdbfkclgaa
open Go.RowKit
set_option linter.unusedVariables false
set_option linter.unusedSimpArgs false

def HeardPost (w : World) (F : Nat → Prop) (g : Nat) (wt : Int) (L : List Wt) (M : Nat) (a life now : Int) (e : Ending) (w2 : World) : Prop :=
  e = .returned (.bool (heardB L a life now)) ∧ Bt w2 F g wt (if heardB L a life now then hearW L a now else L) M ∧ Chg F w w2

set_option maxRecDepth 100000 in
set_option maxHeartbeats 1000000 in
theorem btHeard_any (w : World) (F : Nat → Prop) (g : Nat) (wt : Int) (L : List Wt) (M : Nat) (a life now : Int) (h : Bt w F g wt L M) (hM : M ≤ 1000000000) (ha : i64 a) :
    Calls Try.prog 9 #[.pointer (some ⟨g, 0, none⟩), .int .i64 a, .int .i64 life, .int .i64 now] w (HeardPost w F g wt L M a life now) := by
  have H := Lib.hid h
  have hstay : ∀ w2, Chg Non w w2 → heardB L a life now = false → HeardPost w F g wt L M a life now (.returned (.bool false)) w2 := fun w2 hc he => ⟨by rw [he], by rw [he, if_neg Bool.false_ne_true]; exact h.non hc, hc.of_non⟩
  have Hstay := Lib.hid hstay
  obtain ⟨⟨m1, m2, n1, n2, hn1, hn2, hb, hm, hm2, hne, h1, h2, h3⟩, h5⟩ := h
  have hgm : g ≠ m1 := fun e => hm.apart hb e.symm
  obtain ⟨c0, c1, c2⟩ := cells3 hb
  have hg := hb.lt
  cases hk : nW L a with
  | none =>
    have q1 := hm.look_okI Try.underlying40 (z := .agg #[.int .i64 0, .int .i64 0]) (by kernel_rfl) (i64_wf ha) (u := none) (by unfold nF; rw [hk]; rfl)
    simp only [Option.getD_none, Option.isSome_none] at q1
    have He : Hid (heardB L a life now = false) := by show _ = _; unfold heardB; rw [hk]
    clear hk hb hm hm2 c0 c2 hstay
    go_enter Try.func9, Try.ntmps9
    go_wp2_with fail
    go_ret
    exact Hstay.out _ ((Chg.refl _ _).alloc _) He.out
  | some p =>
    obtain ⟨l, s⟩ := p
    have q1 := hm.look_okI Try.underlying40 (z := .agg #[.int .i64 0, .int .i64 0]) (by kernel_rfl) (i64_wf ha) (u := some (.agg #[.int .i64 l, .int .i64 s])) (by unfold nF; rw [hk]; rfl)
    simp only [Option.getD_some, Option.isSome_some] at q1
    by_cases hll : l = life
    · subst hll
      have hbox : Blk ((w.alloc (.cells #[.int .i64 l, .int .i64 s] 45)).alloc (.cells #[.int .i64 l, .int .i64 now] 3)) (w.heap.size + 1) 3 #[.int .i64 l, .int .i64 now] := by
        have := Blk.new (w.alloc (.cells #[.int .i64 l, .int .i64 s] 45)) 3 #[.int .i64 l, .int .i64 now]
        simpa using this
      have hmy := may2_any _ (w.heap.size + 1) l now hbox
      have hbx : Blk ((w.alloc (.cells #[.int .i64 l, .int .i64 s] 45)).alloc (.cells #[.int .i64 l, .int .i64 now] 3)) w.heap.size 45 #[.int .i64 l, .int .i64 s] := (Blk.new _ _ _).alloc _
      have hC0 : Chg Non w ((w.alloc (.cells #[.int .i64 l, .int .i64 s] 45)).alloc (.cells #[.int .i64 l, .int .i64 now] 3)) := ((Chg.refl _ _).alloc _).alloc _
      have Hbx := Lib.hid hbx
      have HC0 := Lib.hid hC0
      cases hmb : (mayB l && mayB now) with
      | false =>
        rw [hmb] at hmy
        have He : Hid (heardB L a l now = false) := by show _ = _; unfold heardB; rw [hk]; dsimp only; rw [hmb]; simp
        clear hk hb hm hm2 c0 c2 hstay hbox hbx hmb hC0
        go_enter Try.func9, Try.ntmps9
        go_wp2_with fail
        refine hmy.mono ?_
        rintro e w2 ⟨rfl, rfl⟩
        go_wp2_with fail
        go_ret
        exact Hstay.out _ HC0.out He.out
      | true =>
        rw [hmb] at hmy
        have He : Hid (heardB L a l now = true) := by show _ = _; unfold heardB; rw [hk]; dsimp only; rw [hmb]; simp
        have Hk := Lib.hid hk
        have Hm := Lib.hid hm
        have Hm2 := Lib.hid hm2
        have Hb := Lib.hid hb
        clear hk hb hm hm2 c0 c2 hstay hbox hbx hmb hC0
        go_enter Try.func9, Try.ntmps9
        go_wp2_with fail
        refine hmy.mono ?_
        rintro e w2 ⟨rfl, hw2⟩
        have hbx := Hbx.out
        have hC2 := HC0.out
        rw [hw2] at hbx hC2
        clear hw2 hmy q1 c1 Hbx HC0
        have x0 : w2.cell? ⟨w.heap.size, 0, none⟩ = some (.int .i64 l) := hbx.cell 0
        have x1 : w2.cell? ⟨w.heap.size, 1, none⟩ = some (.int .i64 s) := hbx.cell 1
        have xf := hbx.frozen 1
        have hxl := hbx.lt
        obtain ⟨v, hv⟩ : ∃ v, later s now = v := ⟨_, rfl⟩
        have hbx3 := hbx.put 1 (.int .i64 v)
        simp only [List.setIfInBounds_toArray, List.set_cons_succ, List.set_cons_zero] at hbx3
        have hC3 := hC2.setCell (p := ⟨w.heap.size, 1, none⟩) (.inr (Nat.le_refl _)) (.int .i64 v)
        obtain ⟨w3, hw3⟩ : ∃ w3, w2.setCell ⟨w.heap.size, 1, none⟩ (.int .i64 v) = w3 := ⟨_, rfl⟩
        rw [hw3] at hbx3 hC3
        have Hv := Lib.hid hv
        clear hv hbx hC2
        by_cases hs : s < now
        all_goals
          have hv2 := Hv.out
          unfold later at hv2
          first
            | (rw [if_pos hs] at hv2; subst hv2)
            | (rw [if_neg hs] at hv2; subst hv2)
          have hs9 := hs
          go_wp2_with fail
          clear hw3 x0 x1 xf hs hs9
          have k1 : ∀ wx, Chg Non w3 wx → wx.cell? ⟨g, 1, none⟩ = some (.map (some m1)) := fun wx h => ((Hb.out.non hC3).non h).cell 1
          have kx0 : ∀ wx, Chg Non w3 wx → wx.cell? ⟨w.heap.size, 0, none⟩ = some (.int .i64 l) := fun wx h => (hbx3.non h).cell 0
          have kx1 := fun wx (h : Chg Non w3 wx) => (hbx3.non h).cell 1
          simp only [List.getElem?_toArray, List.getElem?_cons_succ, List.getElem?_cons_zero] at kx1
          refine st_region_tail 8 6 Non [] [] (fun _ _ _ _ => True) (fun _ _ _ _ => True) (fun _ _ _ => True) (fun _ => True) (by kernel_rfl) (by kernel_rfl) (by kernel_rfl) (fun _ h => h.elim) trivial (fun _ _ _ => trivial) ?_
          repeat (first | (refine st_pass (by rfl) ?_; simp only [Act.put, List.setIfInBounds_toArray, List.set_cons_succ, List.set_cons_zero]) | (refine st_plain (Non) (w3) rfl rfl (f := ?_) (by rfl) rfl rfl (fun w hC hG => ?_) ?_; rotate_left; (clear hG; first | (go_simp; done) | (go_simp; with_reducible rfl) | (simp [*, go_sem, ↓IntWalk.iteOmega]; done) | (simp [*, go_sem, ↓IntWalk.iteOmega]; with_reducible rfl)); simp only [Act.put, List.setIfInBounds_toArray, List.set_cons_succ, List.set_cons_zero]))
          refine st_tail Non w3 rfl rfl rfl (fun w5 hC5 _ _ => ?_)
          simp only [List.drop_succ_cons, List.drop_zero]
          refine wp_store_Mp (K := inKey) rfl (.tmp 43) (.tmp 44) (.tmp 45) 40 rfl ((Hm.out.non hC3).non hC5) Try.underlying40 (by unfold maxLen; omega) rfl (b := a) (i64_wf ha) rfl (u := .agg #[.int .i64 l, .int .i64 _]) rfl ?_
          intro w6 hm6 hc6
          simp only [Act.put, List.setIfInBounds_toArray, List.set_cons_succ, List.set_cons_zero]
          have hsome : (nF L a).isSome = true := by unfold nF; rw [Hk.out]; rfl
          rw [hsome, if_pos rfl] at hm6
          have hC6 : Chg F w w6 := (hC3.non hC5).of_non.trans2 hc6 (fun b e => .inl (by rw [show b = m1 from e]; exact h2))
          have hfin : Bt w6 F g wt (hearW L a now) M := by
            refine ⟨⟨m1, m2, n1, n2, hn1, hn2, ((Hb.out.non hC3).non hC5).chg hc6 (fun e => hgm e), hm6.congr (fun b => ?_), (((Hm2.out.non hC3).non hC5).chg hc6 (fun e => hne e.symm)).congr (fun b => ?_), hne, h1, h2, h3⟩, fun b h => Nat.lt_of_lt_of_le (h5 b h) hC6.size⟩
            · unfold nF
              rw [hear_n Hk.out, Hv.out]
              split <;> rfl
            · unfold vF
              rw [hear_m Hk.out]
          have Hfin := Lib.hid hfin
          clear hfin hm6 hc6 hsome kx0 kx1 k1 hbx3 hC5
          go_wp2_with fail
          go_ret
          exact ⟨by rw [He.out]; rfl, by rw [He.out, if_pos rfl]; exact Hfin.out, hC6⟩
    · have t1 : (l != life) = true := bne_iff_ne.2 hll
      have t2 : (l == life) = false := beq_eq_false_iff_ne.2 hll
      have He : Hid (heardB L a life now = false) := by show _ = _; unfold heardB; rw [hk]; dsimp only; rw [decide_eq_false hll]; rfl
      clear hk hb hm hm2 c0 c2 hstay hll
      go_enter Try.func9, Try.ntmps9
      go_wp2_with fail
      go_ret
      exact Hstay.out _ ((Chg.refl _ _).alloc _) He.out

def InPost (w : World) (F : Nat → Prop) (g : Nat) (wt : Int) (L : List Wt) (M : Nat) (a life now : Int) (e : Ending) (w2 : World) : Prop :=
  e = .returned (.bool (inB L a life now)) ∧ Bt w2 F g wt (if inB L a life now then inW L a life now else L) (M + 1) ∧ Chg F w w2

set_option maxRecDepth 100000 in
set_option maxHeartbeats 1000000 in
theorem btIn_any (w : World) (F : Nat → Prop) (g : Nat) (wt : Int) (L : List Wt) (M : Nat) (a life now : Int) (h : Bt w F g wt L M) (hM : M ≤ 1000000000) (ha : i64 a) :
    Calls Try.prog 14 #[.pointer (some ⟨g, 0, none⟩), .int .i64 a, .int .i64 life, .int .i64 now] w (InPost w F g wt L M a life now) := by
  have hstay : ∀ w2, Chg Non w w2 → inB L a life now = false → InPost w F g wt L M a life now (.returned (.bool false)) w2 := fun w2 hc he => ⟨by rw [he], by rw [he, if_neg Bool.false_ne_true]; exact (h.non hc).more (by omega), hc.of_non⟩
  have Hstay := Lib.hid hstay
  obtain ⟨⟨m1, m2, n1, n2, hn1, hn2, hb, hm, hm2, hne, h1, h2, h3⟩, h5⟩ := h
  have hgm : g ≠ m1 := fun e => hm.apart hb e.symm
  have hgm2 : g ≠ m2 := fun e => hm2.apart hb e.symm
  obtain ⟨c0, c1, c2⟩ := cells3 hb
  have hg := hb.lt
  have hwf := i64_wf ha
  cases hk : nW L a with
  | some p =>
    obtain ⟨l, s⟩ := p
    have q1 := hm.look_okI Try.underlying40 (z := .agg #[.int .i64 0, .int .i64 0]) (by kernel_rfl) hwf (u := some (.agg #[.int .i64 l, .int .i64 s])) (by unfold nF; rw [hk]; rfl)
    simp only [Option.getD_some, Option.isSome_some] at q1
    have He : Hid (inB L a life now = false) := by show _ = _; unfold inB; rw [hk]; rfl
    have hmA := hm2.alloc (.cells #[.int .i64 l, .int .i64 s] 45)
    cases hk2 : mW L a with
    | none =>
      have q2 := hmA.look_okI Try.underlying41 (z := .int .i64 0) (by kernel_rfl) hwf (u := none) (by unfold vF; rw [hk2]; rfl)
      simp only [Option.getD_none, Option.isSome_none] at q2
      clear hk hk2 hb hm hm2 c0 hstay hmA
      go_enter Try.func14, Try.ntmps14
      go_wp2_with fail
      go_ret
      exact Hstay.out _ ((Chg.refl _ _).alloc _) He.out
    | some m =>
      have q2 := hmA.look_okI Try.underlying41 (z := .int .i64 0) (by kernel_rfl) hwf (u := some (.int .i64 m)) (by unfold vF; rw [hk2]; rfl)
      simp only [Option.getD_some, Option.isSome_some] at q2
      clear hk hk2 hb hm hm2 c0 hstay hmA
      go_enter Try.func14, Try.ntmps14
      go_wp2_with fail
      go_ret
      exact Hstay.out _ ((Chg.refl _ _).alloc _) He.out
  | none =>
    have q1 := hm.look_okI Try.underlying40 (z := .agg #[.int .i64 0, .int .i64 0]) (by kernel_rfl) hwf (u := none) (by unfold nF; rw [hk]; rfl)
    simp only [Option.getD_none, Option.isSome_none] at q1
    have hmA := hm2.alloc (.cells #[.int .i64 0, .int .i64 0] 45)
    have hbox : Blk ((w.alloc (.cells #[.int .i64 0, .int .i64 0] 45)).alloc (.cells #[.int .i64 life, .int .i64 now] 3)) (w.heap.size + 1) 3 #[.int .i64 life, .int .i64 now] := by
      have := Blk.new (w.alloc (.cells #[.int .i64 0, .int .i64 0] 45)) 3 #[.int .i64 life, .int .i64 now]
      simpa using this
    have hmy := may2_any _ (w.heap.size + 1) life now hbox
    have hC0 : Chg Non w ((w.alloc (.cells #[.int .i64 0, .int .i64 0] 45)).alloc (.cells #[.int .i64 life, .int .i64 now] 3)) := ((Chg.refl _ _).alloc _).alloc _
    have HC0 := Lib.hid hC0
    cases hmb : (mayB life && mayB now) with
    | false =>
      rw [hmb] at hmy
      have He : Hid (inB L a life now = false) := by show _ = _; unfold inB; rw [hmb]; simp
      cases hk2 : mW L a with
      | none =>
        have q2 := hmA.look_okI Try.underlying41 (z := .int .i64 0) (by kernel_rfl) hwf (u := none) (by unfold vF; rw [hk2]; rfl)
        simp only [Option.getD_none, Option.isSome_none] at q2
        clear hk hk2 hb hm hm2 c0 hstay hmA hbox hC0 hmb
        go_enter Try.func14, Try.ntmps14
        go_wp2_with fail
        refine hmy.mono ?_
        rintro e w2 ⟨rfl, rfl⟩
        go_wp2_with fail
        go_ret
        exact Hstay.out _ HC0.out He.out
      | some m =>
        have q2 := hmA.look_okI Try.underlying41 (z := .int .i64 0) (by kernel_rfl) hwf (u := some (.int .i64 m)) (by unfold vF; rw [hk2]; rfl)
        simp only [Option.getD_some, Option.isSome_some] at q2
        clear hk hk2 hb hm hm2 c0 hstay hmA hbox hC0 hmb
        go_enter Try.func14, Try.ntmps14
        go_wp2_with fail
        refine hmy.mono ?_
        rintro e w2 ⟨rfl, rfl⟩
        go_wp2_with fail
        go_ret
        exact Hstay.out _ HC0.out He.out
    | true =>
      rw [hmb] at hmy
      cases hk2 : mW L a with
      | some m =>
        have q2 := hmA.look_okI Try.underlying41 (z := .int .i64 0) (by kernel_rfl) hwf (u := some (.int .i64 m)) (by unfold vF; rw [hk2]; rfl)
        simp only [Option.getD_some, Option.isSome_some] at q2
        by_cases hlm : m < life
        · have He : Hid (inB L a life now = true) := by show _ = _; unfold inB; rw [hk, hmb, hk2]; dsimp only; rw [decide_eq_true hlm]; rfl
          have Hk := Lib.hid hk
          have Hm := Lib.hid hm
          have Hm2 := Lib.hid hm2
          have Hb := Lib.hid hb
          clear hk hk2 hb hm hm2 c0 hstay hmA hbox hC0 hmb
          go_enter Try.func14, Try.ntmps14
          go_wp2_with fail
          refine hmy.mono ?_
          rintro e w2 ⟨rfl, hw2⟩
          have hC2 := HC0.out
          rw [hw2] at hC2
          clear hw2 hmy q1 q2 c1 c2 HC0
          have hb2 := Hb.out.non hC2
          obtain ⟨_, c1, c2⟩ := cells3 hb2
          have hg2 := hb2.lt
          have hm12 := Hm.out.non hC2
          have hm22 := Hm2.out.non hC2
          go_wp2_with (first
            | (at_mapUpdate; refine wp_store_Mp (K := inKey) rfl (.tmp 50) (.tmp 51) (.tmp 54) 40 rfl hm12 Try.underlying40 (by unfold maxLen; omega) rfl (b := a) hwf rfl (u := .agg #[.int .i64 life, .int .i64 now]) rfl ?_; intro w6 hm6 hc6; have hb6 := hb2.chg hc6 (fun e => hgm e); have hm26 := hm22.chg hc6 (fun e => hne e.symm); have c26 := (cells3 hb6).2.2; have hgl6 := hb6.lt)
            | (at_mapUpdate; refine wp_store_Mp (K := inKey) rfl (.tmp 58) (.tmp 59) (.tmp 60) 41 rfl hm26 Try.underlying41 (by unfold maxLen; omega) rfl (b := a) hwf rfl (u := .int .i64 life) rfl ?_; intro w7 hm7 hc7))
          go_ret
          have hC7 : Chg F w w7 := (hC2.of_non.trans2 hc6 (fun b e => .inl (by rw [show b = m1 from e]; exact h2))).trans2 hc7 (fun b e => .inl (by rw [show b = m2 from e]; exact h3))
          refine ⟨by rw [He.out]; rfl, ?_, hC7⟩
          rw [He.out, if_pos rfl]
          refine ⟨⟨m1, m2, _, _, ?_, ?_, hb6.chg hc7 (fun e => hgm2 e), (hm6.chg hc7 (fun e => hne e)).congr (fun b => ?_), hm7.congr (fun b => ?_), hne, h1, h2, h3⟩, fun b h => Nat.lt_of_lt_of_le (h5 b h) hC7.size⟩
          · split <;> omega
          · split <;> omega
          · unfold nF
            rw [in_n]
            split <;> rfl
          · unfold vF
            rw [in_m]
            split <;> rfl
        · have He : Hid (inB L a life now = false) := by show _ = _; unfold inB; rw [hk, hmb, hk2]; dsimp only; rw [decide_eq_false hlm]; rfl
          have hle : life ≤ m := by omega
          clear hk hk2 hb hm hm2 c0 hstay hmA hbox hC0 hmb hlm
          go_enter Try.func14, Try.ntmps14
          go_wp2_with fail
          refine hmy.mono ?_
          rintro e w2 ⟨rfl, rfl⟩
          go_wp2_with fail
          go_ret
          exact Hstay.out _ HC0.out He.out
      | none =>
        have q2 := hmA.look_okI Try.underlying41 (z := .int .i64 0) (by kernel_rfl) hwf (u := none) (by unfold vF; rw [hk2]; rfl)
        simp only [Option.getD_none, Option.isSome_none] at q2
        have He : Hid (inB L a life now = true) := by show _ = _; unfold inB; rw [hk, hmb, hk2]; rfl
        have Hk := Lib.hid hk
        have Hm := Lib.hid hm
        have Hm2 := Lib.hid hm2
        have Hb := Lib.hid hb
        clear hk hk2 hb hm hm2 c0 hstay hmA hbox hC0 hmb
        go_enter Try.func14, Try.ntmps14
        go_wp2_with fail
        refine hmy.mono ?_
        rintro e w2 ⟨rfl, hw2⟩
        have hC2 := HC0.out
        rw [hw2] at hC2
        clear hw2 hmy q1 q2 c1 c2 HC0
        have hb2 := Hb.out.non hC2
        obtain ⟨_, c1, c2⟩ := cells3 hb2
        have hg2 := hb2.lt
        have hm12 := Hm.out.non hC2
        have hm22 := Hm2.out.non hC2
        go_wp2_with (first
          | (at_mapUpdate; refine wp_store_Mp (K := inKey) rfl (.tmp 50) (.tmp 51) (.tmp 54) 40 rfl hm12 Try.underlying40 (by unfold maxLen; omega) rfl (b := a) hwf rfl (u := .agg #[.int .i64 life, .int .i64 now]) rfl ?_; intro w6 hm6 hc6; have hb6 := hb2.chg hc6 (fun e => hgm e); have hm26 := hm22.chg hc6 (fun e => hne e.symm); have c26 := (cells3 hb6).2.2; have hgl6 := hb6.lt)
          | (at_mapUpdate; refine wp_store_Mp (K := inKey) rfl (.tmp 58) (.tmp 59) (.tmp 60) 41 rfl hm26 Try.underlying41 (by unfold maxLen; omega) rfl (b := a) hwf rfl (u := .int .i64 life) rfl ?_; intro w7 hm7 hc7))
        go_ret
        have hC7 : Chg F w w7 := (hC2.of_non.trans2 hc6 (fun b e => .inl (by rw [show b = m1 from e]; exact h2))).trans2 hc7 (fun b e => .inl (by rw [show b = m2 from e]; exact h3))
        refine ⟨by rw [He.out]; rfl, ?_, hC7⟩
        rw [He.out, if_pos rfl]
        refine ⟨⟨m1, m2, _, _, ?_, ?_, hb6.chg hc7 (fun e => hgm2 e), (hm6.chg hc7 (fun e => hne e)).congr (fun b => ?_), hm7.congr (fun b => ?_), hne, h1, h2, h3⟩, fun b h => Nat.lt_of_lt_of_le (h5 b h) hC7.size⟩
        · split <;> omega
        · split <;> omega
        · unfold nF
          rw [in_n]
          split <;> rfl
        · unfold vF
          rw [in_m]
          split <;> rfl
end Go.Proofs.Ytfpkhpdbfkclgaa
