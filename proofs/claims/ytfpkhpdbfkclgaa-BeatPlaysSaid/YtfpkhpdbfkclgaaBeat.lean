/-
  beat.Beats: what it holds; may, New, Heard, Life, Out, In.
-/
import Derived.Test.YtfpkhpdbfkclgaaBeatPlain
import Derived.Test.YtfpkhpdbfkclgaaMaps
import Derived.Test.YtfpkhpdbfkclgaaRow
import Derived.Test.YtfpkhpdbfkclgaaGet
namespace Go.Proofs.Ytfpkhpdbfkclgaa
open Go.RowKit
set_option linter.unusedVariables false
set_option linter.unusedSimpArgs false

theorem mayF_any (x : Int) (w : World) : Calls Try.prog 27 #[.int .i64 x] w fun e w2 => e = .returned (.bool (!mayB x)) ∧ w = w2 := by
  by_cases h : 0 ≤ x
  · have H := Lib.hid (show (!mayB x) = (decide (x < 0) || decide (1099511627776 < x)) by unfold mayB; by_cases h2 : x ≤ 1099511627776 <;> simp [h, h2] <;> omega)
    go_enter Try.func27, Try.ntmps27
    go_wp2_with fail
    go_ret
    exact ⟨by rw [H.out]; rfl, rfl⟩
  · have H := Lib.hid (show (!mayB x) = true by unfold mayB; rw [decide_eq_false h]; rfl)
    go_enter Try.func27, Try.ntmps27
    go_wp2_with fail
    go_ret
    exact ⟨by rw [H.out]; rfl, rfl⟩

set_option maxRecDepth 100000 in
theorem idxMay_any (w : World) (A : Option Addr) (n c : Nat) (L : List Int) (h1 : Rds w 1 A n (iv L)) (hn : n ≤ 9223372036854775807) :
    Calls Try.prog 31 #[.slice A n c, .func (.func 27) #[] #[]] w fun e w2 => ∃ r, e = .returned (.int .i64 r) ∧ Hid (decide (0 ≤ r) = !L.all mayB) ∧ w = w2 := by
  have H1 := Lib.hid h1
  have Hl := Lib.hid h1.lenMap
  clear h1
  go_enter Try.func31, Try.ntmps31
  go_wp2_with fail
  go_loop [8] (fun i => ∃ k : Nat, k ≤ n ∧ i = .int .i64 k ∧ Hid ((L.take k).all mayB = true)) (fun i => n - (intOf i).toNat)
  case atStart => exact ⟨0, Nat.zero_le _, rfl, rfl⟩
  case round =>
    obtain ⟨k, hk, rfl, hno⟩ := hrel
    by_cases hlt : k < n
    · obtain ⟨ad, y, rfl, hy, hc⟩ := H1.out.getI hlt
      have hcl := mayF_any y w
      cases hb : mayB y with
      | false =>
        rw [hb] at hcl
        have Hy : Hid (L.all mayB = false) := by
          show _ = _
          rw [List.all_eq_false]
          exact ⟨y, List.mem_of_getElem? hy, by rw [hb]; exact Bool.false_ne_true⟩
        clear hy hb
        go_wp2_with fail
        refine hcl.mono ?_
        rintro e w2 ⟨rfl, rfl⟩
        go_wp2_with fail
        go_ret
        exact ⟨_, rfl, by show _ = _; rw [Hy.out]; simp, rfl⟩
      | true =>
        rw [hb] at hcl
        have hno2 : Hid ((L.take (k + 1)).all mayB = true) := by
          show _ = _
          rw [List.take_add_one, hy, List.all_append, hno.out]
          simp [hb]
        clear hy hno hb
        go_wp2_with fail
        refine hcl.mono ?_
        rintro e w2 ⟨rfl, rfl⟩
        go_wp2_with fail
        go_round
        case rel => exact ⟨k + 1, by omega, by go_num, hno2⟩
        case measure => simp [intOf]; omega
    · have Hno : Hid (L.all mayB = true) := by
        have := hno.out
        rw [List.take_of_length_le (by have := Hl.out; omega)] at this
        exact this
      clear hno
      go_wp2_with fail
      go_ret
      exact ⟨_, rfl, by show _ = _; rw [Hno.out]; rfl, rfl⟩
set_option maxRecDepth 100000 in
theorem may_any (w : World) (A : Option Addr) (n c : Nat) (L : List Int) (h1 : Rds w 1 A n (iv L)) (hn : n ≤ 9223372036854775807) :
    Calls Try.prog 20 #[.slice A n c] w fun e w2 => e = .returned (.bool (L.all mayB)) ∧ w = w2 := by
  have hcon : Calls Try.prog 26 #[.slice A n c, .func (.func 27) #[] #[]] w fun e w2 => e = .returned (.bool (!L.all mayB)) ∧ w = w2 := by
    go_enter Try.func26, Try.ntmps26
    go_wp2_with fail
    refine (idxMay_any w A n c L h1 hn).mono ?_
    rintro e w2 ⟨r, rfl, hr, rfl⟩
    go_wp2_with fail
    go_ret
    exact ⟨by rw [← hr.out]; rfl, rfl⟩
  go_enter Try.func20, Try.ntmps20
  go_wp2_with fail
  refine hcon.mono ?_
  rintro e w2 ⟨rfl, rfl⟩
  go_wp2_with fail
  go_ret
  exact ⟨rfl, rfl⟩
theorem may1_any (w : World) (g : Nat) (x : Int) (hb : Blk w g 3 #[.int .i64 x]) :
    Calls Try.prog 20 #[.slice (some ⟨g, 0, none⟩) 1 1] w fun e w2 => e = .returned (.bool (mayB x)) ∧ w = w2 := by
  have := may_any w (some ⟨g, 0, none⟩) 1 1 [x] (Rds.block hb rfl) (by omega)
  rw [show [x].all mayB = mayB x by simp] at this
  exact this
theorem may2_any (w : World) (g : Nat) (x y : Int) (hb : Blk w g 3 #[.int .i64 x, .int .i64 y]) :
    Calls Try.prog 20 #[.slice (some ⟨g, 0, none⟩) 2 2] w fun e w2 => e = .returned (.bool (mayB x && mayB y)) ∧ w = w2 := by
  have := may_any w (some ⟨g, 0, none⟩) 2 2 [x, y] (Rds.block hb rfl) (by omega)
  rw [show [x, y].all mayB = (mayB x && mayB y) by simp] at this
  exact this

noncomputable abbrev inKey : KeyKind Try.prog 3 Int := intKey Try.underlying3
theorem i64_wf {n : Int} (h : i64 n) : (Lit.int .i64 n).wf = true := by
  unfold i64 at h
  exact WalkArith.wf_i64 (by omega)

/-- What stands in the maps. -/
def nF (L : List Wt) (a : Int) : Option Value := (nW L a).map fun p => .agg #[.int .i64 p.1, .int .i64 p.2]
def vF (L : List Wt) (a : Int) : Option Value := (mW L a).map fun m => .int .i64 m

/-- Block g is a watch; F: the blocks that it uses; M: no map has more entries. -/
structure Bt (w : World) (F : Nat → Prop) (g : Nat) (wt : Int) (L : List Wt) (M : Nat) : Prop where
  mk_ ::
  is : ∃ m1 m2 n1 n2, n1 ≤ M ∧ n2 ≤ M ∧ Blk w g 43 #[.int .i64 wt, .map (some m1), .map (some m2)] ∧ Mp inKey w m1 n1 (nF L) ∧ Mp inKey w m2 n2 (vF L) ∧ m1 ≠ m2 ∧ F g ∧ F m1 ∧ F m2
  lt : ∀ b, F b → b < w.heap.size
theorem Bt.chg {w w2 : World} {F S : Nat → Prop} {g : Nat} {wt : Int} {L : List Wt} {M : Nat} (h : Bt w F g wt L M) (hc : Chg S w w2) (hs : ∀ b, F b → ¬ S b) : Bt w2 F g wt L M := by
  obtain ⟨⟨m1, m2, n1, n2, hn1, hn2, hb, hm, hm2, hne, h1, h2, h3⟩, h5⟩ := h
  exact ⟨⟨m1, m2, n1, n2, hn1, hn2, hb.chg hc (hs _ h1), hm.chg hc (hs _ h2), hm2.chg hc (hs _ h3), hne, h1, h2, h3⟩, fun b hb => Nat.lt_of_lt_of_le (h5 b hb) hc.size⟩
theorem Bt.non {w w2 : World} {F : Nat → Prop} {g : Nat} {wt : Int} {L : List Wt} {M : Nat} (h : Bt w F g wt L M) (hc : Chg Non w w2) : Bt w2 F g wt L M := h.chg hc fun _ _ => id
theorem Bt.more {w : World} {F : Nat → Prop} {g : Nat} {wt : Int} {L : List Wt} {M M2 : Nat} (h : Bt w F g wt L M) (hm : M ≤ M2) : Bt w F g wt L M2 := by
  obtain ⟨⟨m1, m2, n1, n2, hn1, hn2, r⟩, h5⟩ := h
  exact ⟨⟨m1, m2, n1, n2, by omega, by omega, r⟩, h5⟩

theorem cells3 {w : World} {g : Nat} {t : TypeId} {a b c : Value} (h : Blk w g t #[a, b, c]) : w.cell? ⟨g, 0, none⟩ = some a ∧ w.cell? ⟨g, 1, none⟩ = some b ∧ w.cell? ⟨g, 2, none⟩ = some c := ⟨h.cell 0, h.cell 1, h.cell 2⟩

def NewPost (w : World) (wt : Int) (l : List Int) (n : Nat) (e : Ending) (w2 : World) : Prop :=
  ∃ g, e = .returned (.pointer (some ⟨g, 0, none⟩)) ∧ Bt w2 (fun b => w.heap.size ≤ b ∧ b < w2.heap.size) g (if wt ≤ 1 then 1 else wt) (newW l) n ∧ Chg Non w w2

set_option maxRecDepth 100000 in
set_option maxHeartbeats 1000000 in
theorem btNew_any (w : World) (wt : Int) (A : Option Addr) (n c : Nat) (l : List Int) (hr : Rds w 1 A n (iv l)) (hn : n ≤ 1000000) (hl : ∀ x ∈ l, i64 x) :
    Calls Try.prog 7 #[.int .i64 wt, .slice A n c] w (NewPost w wt l n) := by
  have hmm := @run_makeMap Try.prog
  have key : ∀ y : Int, (if wt ≤ 1 then 1 else wt) = y → ∀ w3, (∃ w2, w2 = ((w.alloc (.map #[] 0)).alloc (.map #[] 0)).alloc (.cells #[.int .i64 y, .map (some w.heap.size), .map (some (w.heap.size + 1))] 43) ∧ w3 = w2) → Blk w3 (w.heap.size + 2) 43 #[.int .i64 y, .map (some w.heap.size), .map (some (w.heap.size + 1))] ∧ Mp inKey w3 w.heap.size 0 (nF (newW [])) ∧ Mp inKey w3 (w.heap.size + 1) 0 (vF (newW [])) ∧ Chg Non w w3 := by
    rintro y hy w3 ⟨w2, rfl, rfl⟩
    have hm1 := Mp.made inKey w
    have hm2 := Mp.made inKey (w.alloc (.map #[] 0))
    rw [World.size_alloc] at hm2
    refine ⟨?_, ((hm1.alloc _).alloc _).congr (fun a => rfl), (hm2.alloc _).congr (fun a => rfl), (((Chg.refl Non w).alloc _).alloc _).alloc _⟩
    have := Blk.new ((w.alloc (.map #[] 0)).alloc (.map #[] 0)) 43 #[.int .i64 y, .map (some w.heap.size), .map (some (w.heap.size + 1))]
    simpa using this
  have Key := Lib.hid key
  have Hr := Lib.hid hr
  have Hl := Lib.hid hl
  have Hll := Lib.hid hr.lenMap
  clear key hr hl
  have hcase : (wt ≤ 1 ∧ Hid ((if wt ≤ 1 then (1 : Int) else wt) = 1)) ∨ (1 < wt ∧ Hid ((if wt ≤ 1 then (1 : Int) else wt) = wt)) := by
    by_cases h : wt ≤ 1
    · exact .inl ⟨h, if_pos h⟩
    · exact .inr ⟨by omega, if_neg h⟩
  rcases hcase with ⟨h1, Hy⟩ | ⟨h1, Hy⟩
  all_goals
    go_enter Try.func7, Try.ntmps7
    go_wp2_with fail
    obtain ⟨hb, hm1, hm2, hC⟩ := Key.out _ Hy.out _ ⟨_, rfl, rfl⟩
    obtain ⟨s0, hs0⟩ : ∃ s0, w.heap.size = s0 := ⟨_, rfl⟩
    rw [hs0] at hb hm1 hm2 hC
    rw [hs0]
    have hs1 : w.heap.size ≤ s0 := by omega
    clear h1 hs0 hmm
    go_loopw [16] (fun i wr => ∃ (k n1 n2 : Nat) (y : Int), Hid ((if wt ≤ 1 then 1 else wt) = y) ∧ k ≤ n ∧ i = .int .i64 k ∧ n1 ≤ k ∧ n2 ≤ k ∧ Blk wr (s0 + 2) 43 #[.int .i64 y, .map (some s0), .map (some (s0 + 1))] ∧ Mp inKey wr s0 n1 (nF (newW (l.take k))) ∧ Mp inKey wr (s0 + 1) n2 (vF (newW (l.take k))) ∧ Chg Non w wr) (fun i _ => n - (intOf i).toNat)
    case atStart => exact ⟨0, 0, 0, _, Hy, Nat.zero_le _, rfl, Nat.le_refl _, Nat.le_refl _, hb, hm1, hm2, hC⟩
    case round =>
      clear hb hm1 hm2 hC
      obtain ⟨k, n1, n2, y, hyy, hk, rfl, hn1, hn2, hb, hm1, hm2, hC⟩ := hrel
      by_cases hlt : k < n
      · obtain ⟨ad, x, rfl, hx, hcx⟩ := Hr.out.getI hlt
        have a0 := hC.cell hcx id
        have hwf := i64_wf (Hl.out x (List.mem_of_getElem? hx))
        have hst : l.take (k + 1) = l.take k ++ [x] := by rw [List.take_add_one, hx]; rfl
        have Hn : Hid (∀ b, (if b = x then some (Value.agg #[.int .i64 1, .int .i64 0]) else nF (newW (l.take k)) b) = nF (newW (l.take (k + 1))) b) := by
          intro b
          rw [hst, new_snoc]
          unfold nF
          rw [add_n (fresh_new _)]
          split <;> rfl
        have Hv : Hid (∀ b, (if b = x then some (Value.int .i64 1) else vF (newW (l.take k)) b) = vF (newW (l.take (k + 1))) b) := by
          intro b
          rw [hst, new_snoc]
          unfold vF
          rw [add_m (fresh_new _)]
          split <;> rfl
        obtain ⟨c0, c1, c2⟩ := cells3 hb
        have hgl := hb.lt
        clear hx hcx hst
        go_wp2_with (first
          | (at_mapUpdate; refine wp_store_Mp (K := inKey) rfl (.tmp 23) (.tmp 24) (.tmp 25) 40 rfl hm1 Try.underlying40 (by unfold maxLen; omega) rfl (b := x) hwf rfl (u := .agg #[.int .i64 1, .int .i64 0]) rfl ?_; intro w6 hm6 hc6; have hb6 := hb.chg hc6 (fun e => by have e : s0 + 2 = s0 := e; omega); have hm26 := hm2.chg hc6 (fun e => by have e : s0 + 1 = s0 := e; omega); have c26 := (cells3 hb6).2.2; have hgl6 := hb6.lt)
          | (at_mapUpdate; refine wp_store_Mp (K := inKey) rfl (.tmp 29) (.tmp 30) (.const (.int .i64 1)) 41 rfl hm26 Try.underlying41 (by unfold maxLen; omega) rfl (b := x) hwf rfl (u := .int .i64 1) rfl ?_; intro w7 hm7 hc7))
        have hb7 := hb6.chg hc7 (fun e => by have e : s0 + 2 = s0 + 1 := e; omega)
        have hm17 := (hm6.chg hc7 (fun e => by have e : s0 = s0 + 1 := e; omega)).congr Hn.out
        have hm27 := hm7.congr Hv.out
        have hC7 : Chg Non w w7 := (hC.trans2 hc6 (fun b e => .inr (by have e : b = s0 := e; omega))).trans2 hc7 (fun b e => .inr (by have e : b = s0 + 1 := e; omega))
        clear hb hm1 hm2 hC c0 c1 c2 hgl hb6 hm6 hm26 c26 hgl6 hm7 hc6 hc7 a0
        go_roundw
        case rel => exact ⟨k + 1, _, _, y, hyy, by omega, by go_num, by split <;> omega, by split <;> omega, hb7, hm17, hm27, hC7⟩
        case measure => simp [intOf]; omega
      · have hst : l.take k = l := List.take_of_length_le (by have := Hll.out; omega)
        rw [hst] at hm1 hm2
        clear hst
        go_wp2_with fail
        go_ret
        refine ⟨s0 + 2, rfl, ⟨⟨s0, s0 + 1, n1, n2, by omega, by omega, by rw [hyy.out]; exact hb, hm1, hm2, by omega, ⟨by omega, hb.lt⟩, ⟨by omega, hm1.lt⟩, ⟨by omega, hm2.lt⟩⟩, fun b h => h.2⟩, hC⟩

set_option maxRecDepth 100000 in
theorem btLife_any (w : World) (F : Nat → Prop) (g : Nat) (wt : Int) (L : List Wt) (M : Nat) (a : Int) (h : Bt w F g wt L M) (ha : i64 a) :
    Calls Try.prog 16 #[.pointer (some ⟨g, 0, none⟩), .int .i64 a] w fun e w2 => e = .returned (.tuple #[.int .i64 ((nW L a).map (·.1) |>.getD 0), .bool (nW L a).isSome]) ∧ Chg Non w w2 := by
  obtain ⟨⟨m1, m2, n1, n2, hn1, hn2, hb, hm, hm2, hne, h1, h2, h3⟩, h5⟩ := h
  obtain ⟨c0, c1, c2⟩ := cells3 hb
  cases hk : nW L a with
  | none =>
    have q1 := hm.look_okI Try.underlying40 (z := .agg #[.int .i64 0, .int .i64 0]) (by kernel_rfl) (i64_wf ha) (u := none) (by unfold nF; rw [hk]; rfl)
    simp only [Option.getD_none, Option.isSome_none] at q1
    clear hk hb hm hm2 c0 c2
    go_enter Try.func16, Try.ntmps16
    go_wp2_with fail
    go_ret2
    exact ⟨rfl, (Chg.refl _ _).alloc _⟩
  | some p =>
    obtain ⟨x, t⟩ := p
    have q1 := hm.look_okI Try.underlying40 (z := .agg #[.int .i64 0, .int .i64 0]) (by kernel_rfl) (i64_wf ha) (u := some (.agg #[.int .i64 x, .int .i64 t])) (by unfold nF; rw [hk]; rfl)
    simp only [Option.getD_some, Option.isSome_some] at q1
    clear hk hb hm hm2 c0 c2
    go_enter Try.func16, Try.ntmps16
    go_wp2_with fail
    go_ret2
    exact ⟨rfl, (Chg.refl _ _).alloc _⟩

set_option maxRecDepth 100000 in
set_option maxHeartbeats 1000000 in
theorem btOut_any (w : World) (F : Nat → Prop) (g : Nat) (wt : Int) (L : List Wt) (M : Nat) (A : Option Addr) (n c : Nat) (l : List Int) (h : Bt w F g wt L M) (hr : Rds w 1 A n (iv l)) (hn : n ≤ 1000000) (hl : ∀ x ∈ l, i64 x) (hA : 0 < n → ∀ ad, A = some ad → ¬ F ad.block) :
    Calls Try.prog 12 #[.pointer (some ⟨g, 0, none⟩), .slice A n c] w fun e w2 => e = .returned (.tuple #[]) ∧ Bt w2 F g wt (outsW L l) M ∧ Chg F w w2 := by
  have Hr := Lib.hid hr
  have Hl := Lib.hid hl
  have Hll := Lib.hid hr.lenMap
  obtain ⟨⟨m1, m2, n1, n2, hn1, hn2, hb, hm, hm2, hne, h1, h2, h3⟩, h5⟩ := h
  have hgm : g ≠ m1 := fun e => hm.apart hb e.symm
  have hm2g : m2 ≠ m1 := fun e => hne e.symm
  clear hr hl
  go_enter Try.func12, Try.ntmps12
  go_wp2_with fail
  go_loopw [8] (fun i wr => ∃ (k n1 : Nat), k ≤ n ∧ i = .int .i64 k ∧ n1 ≤ M ∧ Blk wr g 43 #[.int .i64 wt, .map (some m1), .map (some m2)] ∧ Mp inKey wr m1 n1 (nF (outsW L (l.take k))) ∧ Chg (fun b => b = m1) w wr) (fun i _ => n - (intOf i).toNat)
  case atStart => exact ⟨0, n1, Nat.zero_le _, rfl, hn1, hb, hm, Chg.refl _ _⟩
  case round =>
    clear hb hm hn1
    obtain ⟨k, n1, hk, rfl, hn1, hb, hm1, hC⟩ := hrel
    by_cases hlt : k < n
    · obtain ⟨ad, x, rfl, hx, hcx⟩ := Hr.out.getI hlt
      have a0 := hC.cell hcx (fun e => hA (by omega) ad rfl (by rw [block_add] at e; rw [show ad.block = m1 from e]; exact h2))
      have hwf := i64_wf (Hl.out x (List.mem_of_getElem? hx))
      have hst : l.take (k + 1) = l.take k ++ [x] := by rw [List.take_add_one, hx]; rfl
      have Hn : Hid (∀ b, (if b = x then none else nF (outsW L (l.take k)) b) = nF (outsW L (l.take (k + 1))) b) := by
        intro b
        rw [hst, outs_snoc]
        unfold nF
        rw [out_n]
        split <;> rfl
      obtain ⟨c0, c1, c2⟩ := cells3 hb
      have hgl := hb.lt
      clear hx hcx hst
      go_wp2_with (at_delete; refine wp_delete_Mp (K := inKey) rfl (.tmp 15) (.tmp 16) 40 rfl hm1 Try.underlying40 rfl (b := x) hwf rfl ?_; intro w6 hm6 hc6)
      have hb6 := hb.chg hc6 (fun e => hgm e)
      have hm7 := hm6.congr Hn.out
      have hC7 := hC.trans hc6
      clear hb hm1 hC c0 c1 c2 hgl hm6 hc6 a0
      go_roundw
      case rel => exact ⟨k + 1, _, by omega, by go_num, by split <;> omega, hb6, hm7, hC7⟩
      case measure => simp [intOf]; omega
    · have hst : l.take k = l := List.take_of_length_le (by have := Hll.out; omega)
      rw [hst] at hm1
      have hm2e := (hm2.chg hC (fun e => hm2g e)).congr (f2 := vF (outsW L l)) (fun a => by
        have : ∀ (l : List Int) (L : List Wt) (a : Int), mW (outsW L l) a = mW L a := by
          intro l
          induction l with
          | nil => intro L a; rfl
          | cons y l ih => intro L a; show mW (outsW (outW L y) l) a = _; rw [ih, out_m]
        unfold vF
        rw [this])
      have hCF : Chg F w wr := hC.mono (fun b e => by rw [show b = m1 from e]; exact h2)
      have Hfin : Hid (Bt wr F g wt (outsW L l) M) := ⟨⟨m1, m2, n1, n2, hn1, hn2, hb, hm1, hm2e, hne, h1, h2, h3⟩, fun b h => Nat.lt_of_lt_of_le (h5 b h) hC.size⟩
      clear hst hm1 hm2e hm2 hb
      go_wp2_with fail
      go_end0
      exact ⟨rfl, Hfin.out, hCF⟩
end Go.Proofs.Ytfpkhpdbfkclgaa
